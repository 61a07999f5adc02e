/- Operations on memory: make, append, copy, ranging over a string; all of them. -/
import Derived.Test.YtmomainjlncogaaLkX
namespace Go.Lk
open Go.RowKit (Below)
set_option linter.unusedSimpArgs false
set_option linter.unusedVariables false

variable {ex : Bool} {μ μ' : List (Option Ent)} {P : Program} {B : Nat} {σ σ' : AHeap} {w w' : World}

theorem info_runs {t : TypeId} {i : TypeInfo} (h : P.info? t = some i) (w : World) : (typeInfo t).run P w = .ok i w ∧ (sizeOf t).run P w = .ok i.size w := by
  simp [typeInfo, sizeOf, h]

theorem wrap_small {n : Int} (h0 : 0 ≤ n) (h : n ≤ 281474976710656) : IntKind.i64.wrap n = n := by
  have h1 : n % 18446744073709551616 = n := Int.emod_eq_of_lt h0 (by omega)
  simp only [IntKind.wrap, IntKind.signed, IntKind.bits, Int.reducePow, h1]
  rw [if_neg]
  simp
  omega

theorem make_sound {t : TypeId} {l l' c c' v : Value} (h : aMake P σ t l c = some (v, σ')) (hl : VR ex μ l l') (hc : VR ex μ c c') (hr : HR ex B μ σ w) :
    okh P ex B μ σ' (do pure (.value (← Instr.makeSlice t l' c'))) v w := by
  unfold aMake at h
  split at h
  · rename_i e k len k' cap hu
    rw [hl.int_of, hc.int_of]
    split at h
    · rename_i inf hi
      split at h
      · rename_i hb
        obtain ⟨h0, h1, h2, h3⟩ := hb
        split at h
        · rename_i z hz
          split at h
          · rename_i hzz
            obtain ⟨hzs, hs0, hzo⟩ := hzz
            cases h
            obtain ⟨hzr, hzv⟩ := zero_sound (ex := ex) (μ := μ) hz
            have hz0 : z.cells.size ≠ 0 := by rw [hzs]; exact hs0
            obtain ⟨w', μ', en, q1, q2, q3, q4, q5, q6, q7⟩ := newP_sound (P := P) (elem := e) (VRs.zrow hzv.cells (cap.toNat * inf.size)) hr
            refine ⟨.value (.slice (some ⟨en.cb, 0, none⟩) len.toNat cap.toNat), w', μ', ?_, ?_, q2, q3, q5⟩
            · have hwl := wrap_small h0 (by omega)
              have hwc := wrap_small (n := cap) (by omega) (by omega)
              have hlt : ∀ n : Int, n ≤ cap → 0 ≤ n → (decide (n < 0) || decide ((inf.bytes : Int) * n > 2 ^ 48)) = false := by
                intro n hn hn0
                have : (inf.bytes : Int) * n ≤ cap * inf.bytes := by
                  rw [Int.mul_comm]
                  exact Int.mul_le_mul_of_nonneg_right hn (by omega)
                simp
                omega
              have hbad : ((decide (cap < 0) || decide ((inf.bytes : Int) * cap > 2 ^ 48)) || decide (len < 0) || decide (len > cap)) = false := by
                rw [hlt cap (by omega) (by omega)]
                simp
                omega
              obtain ⟨i1, i2⟩ := info_runs (P := P) hi w
              have hA : ((Array.range (cap.toNat * inf.size)).map (z.cells[· % z.cells.size]!)) = (zrow z.cells.toList (cap.toNat * inf.size)).toArray := by
                rw [← zrow_eq hz0]
              by_cases hn : cap.toNat * inf.size = 0
              · have hA0 : ((Array.range (cap.toNat * inf.size)).map (fun x => (#[] : Array Value)[x % (#[] : Array Value).size]!)) = (zrow z.cells.toList (cap.toNat * inf.size)).toArray := by
                  rw [hn]
                  rw [show zrow z.cells.toList 0 = [] from rfl]
                  exact Array.eq_empty_of_size_eq_zero (by simp)
                simp only [Instr.makeSlice, Sem.run_bind, run_underlying hu, Result.andThen_ok, asInt, asIntOf, Sem.run_pure, i1, hwl, hwc, hbad, Bool.false_eq_true, if_false, run_askRoom, i2, if_pos hn, hA0, q1]
              · simp only [Instr.makeSlice, Sem.run_bind, run_underlying hu, Result.andThen_ok, asInt, asIntOf, Sem.run_pure, i1, hwl, hwc, hbad, Bool.false_eq_true, if_false, run_askRoom, i2, if_neg hn, hzr, hA, q1]
            · have := VR.slice (ex := ex) (len := len.toNat) (cap := cap.toNat) (sz := inf.size) (o := 0) q7 (.inl rfl)
              rw [q6] at this
              exact this
          · cases h
        · cases h
      · cases h
    · cases h
  · cases h

theorem cells_sound {sz n : Nat} {x x' : Value} {cs : List Value} (h : aCells σ sz n x = some cs) (hx : VR ex μ x x') (hr : HR ex B μ σ w) :
    ∃ cs', (∀ w' : World, w'.heap = w.heap → (Builtin.firstCells sz n x').run P w' = .ok cs'.toArray w') ∧ VRs ex μ cs cs' ∧ cs.length = n * sz := by
  unfold aCells at h
  split at h
  · split at h
    · rename_i b o z len cap hn
      cases h
      cases hx
      · exact ⟨[], fun w' _ => by simp [Builtin.firstCells, loadCells, hn, loadCellsFrom], .nil, hn.symm⟩
      · exact ⟨[], fun w' _ => by simp [Builtin.firstCells, loadCells, hn, loadCellsFrom], .nil, hn.symm⟩
    · rename_i hn
      split at h
      · rename_i b o z len cap _ vs rw opn hb
        split at h
        · rename_i hle
          obtain ⟨hnl, hle⟩ := hle
          cases h
          cases hx with
          | slice hm hc =>
            rename_i e
            obtain ⟨h0, _, c, el, lo, hi, h2, h3, h4, _⟩ := hr.obj _ _ _ hb hm
            refine ⟨(c.toList.drop (e.base + o)).take (n * sz), fun w' hw' => run_loadCells (by rw [hw']; exact h2) (by omega), ?_, by simp; omega⟩
            have := (h4.drop o).take (n * sz)
            rw [List.drop_take, List.drop_drop, List.take_take] at this
            rwa [Nat.min_eq_left (by omega)] at this
          | sempty hm a =>
            have : n = 0 := by omega
            subst this
            simp at hn
        · cases h
      · cases h
  · split at h
    · rename_i hn; cases h
      cases hx
      exact ⟨[], fun _ _ => rfl, .nil, hn.symm⟩
    · cases h
  · cases h

end Go.Lk
