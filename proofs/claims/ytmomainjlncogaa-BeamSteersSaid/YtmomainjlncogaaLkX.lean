/- Operations on memory: composites, make, append, copy, ranging over a string. -/
import Derived.Test.YtmomainjlncogaaLkW
namespace Go.Lk
open Go.RowKit (Below)
set_option linter.unusedSimpArgs false
set_option linter.unusedVariables false

variable {ex : Bool} {μ μ' : List (Option Ent)} {P : Program} {B : Nat} {σ σ' : AHeap} {w w' : World}

def PartsR (ex : Bool) (μ : List (Option Ent)) : List (Nat × Value) → List (Nat × Value) → Prop
  | [], [] => True
  | (i, v) :: xs, (j, u) :: ys => i = j ∧ VR ex μ v u ∧ PartsR ex μ xs ys
  | _, _ => False

theorem foldl_set (vs : List Value) : ∀ (k off : Nat) (cs : Array Value), off + k + vs.length ≤ cs.size →
    (((vs.zipIdx k).foldl (fun cs (x : Value × Nat) => cs.setIfInBounds (off + x.2) x.1) cs)).toList = splice cs.toList (off + k) vs := by
  induction vs with
  | nil => intro k off cs _; simp [splice]
  | cons v vs ih =>
    intro k off cs h
    simp only [List.zipIdx_cons, List.foldl_cons]
    rw [ih (k + 1) off _ (by simp at h ⊢; omega), splice_cons (by simpa using h)]
    simp [Nat.add_assoc]

theorem fill_sound {place place' : Nat → Option (Nat × Nat)} : ∀ (ps ps' : List (Nat × Value)) (cs : List Value) (cs' : Array Value) (r : List Value),
    (∀ i x, place i = some x → place' i = some x) → fillA place cs ps = some r → VRs ex μ cs cs'.toList → PartsR ex μ ps ps' →
    ∃ r', Instr.fill place' cs' ps' = some r' ∧ VRs ex μ r r'.toList
  | [], [], cs, cs', r, hp, h, hv, _ => by cases h; exact ⟨cs', rfl, hv⟩
  | (i, v) :: ps, (j, u) :: ps', cs, cs', r, hp, h, hv, hps => by
    obtain ⟨rfl, hvu, hrest⟩ := hps
    unfold fillA at h
    split at h
    · cases h
    · rename_i off size hpl
      split at h
      · rename_i hc
        have hcells := hvu.cells
        have hl : u.cells.size = size := by have := hcells.1; simp only [Array.length_toList] at this hc; omega
        have hl2 : v.cells.toList.length = u.cells.size := by have := hcells.1; simpa using this
        have hcs : cs.length = cs'.size := by have := hv.1; simpa using this
        have hnot : (u.cells.size ≠ size || off + u.cells.size > cs'.size) = false := by
          have : ¬ off + u.cells.size > cs'.size := by omega
          simp [hl]; omega
        have hfold := foldl_set u.cells.toList 0 off cs' (by simp; omega)
        obtain ⟨r', h1, h2⟩ := fill_sound ps ps' _ ((u.cells.zipIdx.foldl (fun cs (x : Value × Nat) => cs.setIfInBounds (off + x.2) x.1) cs')) r hp h (by
          rw [← Array.foldl_toList, Array.toList_zipIdx, hfold]
          unfold splice
          rw [hl2, show u.cells.size = u.cells.toList.length by simp]
          exact ((hv.take off).append hcells).append (hv.drop _)) hrest
        refine ⟨r', ?_, h2⟩
        unfold Instr.fill
        simp only [hp i _ hpl, hnot, Bool.false_eq_true, if_false]
        exact h1
      · cases h
  | [], _ :: _, _, _, _, _, _, _, h => h.elim
  | (_, _) :: _, [], _, _, _, _, _, _, h => h.elim

theorem mapP_sound {fr : List Value} {a : Act} (hf : FrR ex μ fr a.tmps) : ∀ {xs : List (Nat × Operand)} {vs : List (Nat × Value)}, mapP (aev fr) xs = some vs →
    PartsR ex μ vs (xs.map fun (i, x) => (i, a.eval x))
  | [], vs, h => by cases h; trivial
  | (i, x) :: xs, vs, h => by
    unfold mapP at h
    split at h
    · rename_i v vs' h1 h2
      cases h
      exact ⟨rfl, aev_sound hf h1, mapP_sound hf h2⟩
    · cases h

theorem run_mapM_places : ∀ (fs : List Field), (fs.all fun f => (tSize P f.type).isSome) = true → ∀ (acc : Array (Nat × Nat)) (w : World),
    (fs.foldlM (fun (bs : Array (Nat × Nat)) (a : Field) => bs.push <$> (do pure (a.offset, ← sizeOf a.type) : Sem (Nat × Nat))) acc : Sem _).run P w =
      .ok (acc ++ (fs.map fun f => (f.offset, (tSize P f.type).getD 0)).toArray) w
  | [], _, acc, w => by simp
  | f :: fs, h, acc, w => by
    simp only [List.all_cons, Bool.and_eq_true] at h
    obtain ⟨n, hn⟩ := Option.isSome_iff_exists.1 h.1
    simp only [List.foldlM_cons, Sem.run_bind, Sem.run_map, run_sizeOf' hn, Result.andThen_ok, Sem.run_pure]
    rw [run_mapM_places fs h.2]
    simp [hn]

theorem build_sound {t : TypeId} {ps ps' : List (Nat × Value)} {v : Value} (h : aBuild P t ps = some v) (hp : PartsR ex μ ps ps') :
    ∃ v', (∀ w, (Instr.build t ps'.toArray).run P w = .ok v' w) ∧ VR ex μ v v' := by
  unfold aBuild at h
  split at h
  · rename_i z fields hz hu
    obtain ⟨hzr, hzv⟩ := zero_sound (ex := ex) (μ := μ) hz
    split at h
    · rename_i cells hfill
      cases hall : fields.all (fun f => (tSize P f.type).isSome) <;> rw [hall] at h <;> cases h
      have hmap : ∀ w, (fields.mapM fun f => (do pure (f.offset, ← sizeOf f.type) : Sem (Nat × Nat))).run P w = .ok (fields.map fun f => (f.offset, (tSize P f.type).getD 0)) w := by
        intro w
        rw [Array.mapM_eq_foldlM, ← Array.foldlM_toList, run_mapM_places fields.toList (by rw [← Array.all_toList] at hall; exact hall)]
        congr 1
        apply Array.ext'
        simp
      obtain ⟨r', h1, h2⟩ := fill_sound (place' := ((fields.map fun f => (f.offset, (tSize P f.type).getD 0))[·]?)) _ _ _ z.cells _ (by
        intro i x hx
        split at hx
        · rename_i f hf
          split at hx
          · rename_i n hn
            cases hx
            simp [hf, hn]
          · cases hx
        · cases hx) hfill hzv.cells hp
      refine ⟨.agg r', fun w => ?_, VRs.toAgg (by simpa using h2)⟩
      simp only [Instr.build, Sem.run_bind, hzr, run_underlying hu, Result.andThen_ok, hmap, h1, Sem.run_pure]
    · cases h
  · rename_i z len e hz hu
    obtain ⟨hzr, hzv⟩ := zero_sound (ex := ex) (μ := μ) hz
    split at h
    · rename_i size hs
      split at h
      · rename_i cells hfill
        cases h
        obtain ⟨r', h1, h2⟩ := fill_sound (place' := fun i => some (i * size, size)) _ _ _ z.cells _ (fun _ _ h => h) hfill hzv.cells hp
        refine ⟨.agg r', fun w => ?_, VRs.toAgg (by simpa using h2)⟩
        simp [Instr.build, hzr, run_underlying hu, run_sizeOf' hs, h1]
      · cases h
    · cases h
  · cases h

theorem zrow_eq {z : Array Value} {n : Nat} (hz : z.size ≠ 0) : ((Array.range n).map (z[· % z.size]!)).toList = zrow z.toList n := by
  unfold zrow
  simp only [Array.toList_map, Array.toList_range]
  apply List.map_congr_left
  intro i _
  have : i % z.size < z.size := Nat.mod_lt _ (by omega)
  rw [getElem!_pos z _ this, List.getD_eq_getElem?_getD]
  simp [this]

theorem zrow_length (z : List Value) (n : Nat) : (zrow z n).length = n := by simp [zrow]
theorem VRs.zrow {z : List Value} (h : VRs ex μ z z) (n : Nat) : VRs ex μ (Lk.zrow z n) (Lk.zrow z n) := by
  refine ⟨rfl, fun i a ha => ⟨a, ha, ?_⟩⟩
  unfold Lk.zrow at ha
  rw [List.getElem?_map] at ha
  cases hr : (List.range n)[i]? with
  | none => rw [hr] at ha; cases ha
  | some k =>
    rw [hr] at ha
    cases ha
    show VR ex μ (z.getD (k % z.length) undef) (z.getD (k % z.length) undef)
    rw [List.getD_eq_getElem?_getD]
    cases hk : z[k % z.length]? with
    | none => exact VR.undef
    | some v => obtain ⟨c, hc, hv⟩ := h.2 _ _ hk; rw [hk] at hc; cases hc; exact hv

theorem buildSlice_sound {t : TypeId} {len : Nat} {ps ps' : List (Nat × Value)} {v : Value} (h : aBuildSlice P σ t len ps = some (v, σ')) (hp : PartsR ex μ ps ps') (hr : HR ex B μ σ w) :
    okh P ex B μ σ' (do pure (.value (← Instr.buildSlice t len ps'.toArray))) v w := by
  unfold aBuildSlice at h
  split at h
  · rename_i e hu
    split at h
    · rename_i size z hs hz
      split at h
      · rename_i hc
        obtain ⟨hle, hzs, hs0⟩ := hc
        split at h
        · rename_i cells hfill
          cases h
          obtain ⟨hzr, hzv⟩ := zero_sound (ex := ex) (μ := μ) hz
          have hz0 : z.cells.size ≠ 0 := by rw [hzs]; exact hs0
          by_cases hl : len * size = 0
          · obtain ⟨r', h1, h2⟩ := fill_sound (place' := fun i => some (i * size, size)) ps ps' _ #[] _ (fun _ _ h => h) hfill (by rw [hl]; exact VRs.nil) hp
            obtain ⟨w', μ', en, q1, q2, q3, q4, q5, q6, q7⟩ := newP_sound (P := P) (elem := e) h2 hr
            refine ⟨.value (.slice (some ⟨en.cb, 0, none⟩) len len), w', μ', ?_, ?_, q2, q3, q5⟩
            · simp only [Array.toArray_toList] at q1
              have : ¬ (len * size > 2 ^ 24) := by omega
              have hA : (Array.range (len * size)).map (fun x => (#[] : Array Value)[x % (#[] : Array Value).size]!) = #[] := Array.eq_empty_of_size_eq_zero (by simp; omega)
              simp only [Instr.buildSlice, Sem.run_bind, run_underlying hu, Result.andThen_ok, run_sizeOf' hs, if_neg this, if_pos hl, Sem.run_pure, hA, h1, q1]
            · have := VR.slice (ex := ex) (len := len) (cap := len) (sz := size) (o := 0) q7 (.inl rfl)
              rw [q6] at this
              exact this
          · obtain ⟨r', h1, h2⟩ := fill_sound (place' := fun i => some (i * size, size)) ps ps' _ ((Array.range (len * size)).map (z.cells[· % z.cells.size]!)) _ (fun _ _ h => h) hfill (by rw [zrow_eq hz0]; exact VRs.zrow hzv.cells _) hp
            obtain ⟨w', μ', en, q1, q2, q3, q4, q5, q6, q7⟩ := newP_sound (P := P) (elem := e) h2 hr
            refine ⟨.value (.slice (some ⟨en.cb, 0, none⟩) len len), w', μ', ?_, ?_, q2, q3, q5⟩
            · simp only [Array.toArray_toList] at q1
              have : ¬ (len * size > 2 ^ 24) := by omega
              have hl' : ¬ (len = 0 ∨ size = 0) := by intro h; rcases h with h | h <;> simp [h] at hl
              simp only [Instr.buildSlice, Sem.run_bind, run_underlying hu, Result.andThen_ok, run_sizeOf' hs, if_neg this, if_neg hl, Sem.run_pure, hzr, h1, q1]
            · have := VR.slice (ex := ex) (len := len) (cap := len) (sz := size) (o := 0) q7 (.inl rfl)
              rw [q6] at this
              exact this
        · cases h
      · cases h
    · cases h
  · cases h

end Go.Lk
