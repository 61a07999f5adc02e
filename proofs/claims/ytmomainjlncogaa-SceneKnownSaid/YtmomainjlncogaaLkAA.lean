/- All operations on memory. -/
import Derived.Test.YtmomainjlncogaaLkZ
namespace Go.Lk
set_option linter.unusedSimpArgs false
set_option linter.unusedVariables false

variable {ex : Bool} {μ μ' : List (Option Ent)} {P : Program} {B : Nat → Prop} {σ σ' : AHeap} {w w' : World}

theorem copy_sound {tys : Array TypeId} {xs : List Value} {ys : Array Value} {ty : TypeId} {v : Value} (h : aCopy P σ tys.toList xs = some (v, σ')) (hx : VRs ex μ xs ys.toList) (hr : HR ex B μ σ w) :
    okh P ex B μ σ' (do pure (.value (← Builtin.copy_ tys ty ys))) v w := by
  unfold aCopy at h
  split at h
  · rename_i t ts s x xr hts
    obtain ⟨s', hys0, vs⟩ := hx.2 0 s rfl
    obtain ⟨x', hys1, vx⟩ := hx.2 1 x rfl
    rw [Array.getElem?_toList] at hys0 hys1
    have ht0 : tys[0]? = some t := by rw [← Array.getElem?_toList, hts]; rfl
    split at h
    · rename_i e base len cap n hu hsl
      split at h
      · rename_i sz hsz
        split at h
        · rename_i cs hcs
          obtain ⟨base', cap', rfl, _⟩ := slice_shape vs
          obtain ⟨cs', hrc, vc, hl⟩ := cells_sound (P := P) hcs vx hr
          have hln := lenOf_sound (P := P) hsl vx w
          have hrc' := hrc w rfl
          have hmin : n.min len = min n len := rfl
          split at h
          · rename_i b o z
            split at h
            · rename_i σ1 hput
              cases h
              by_cases hne : cs = []
              · subst hne
                have : cs' = [] := by have := vc.1; simpa using this.symm
                subst this
                simp only [aPut, if_true] at hput
                cases hput
                refine ⟨.value (.int .i64 (min n len : Nat)), w, μ, ?_, .int _ _, hr, Ext.refl _, Blw.refl _ _⟩
                cases base' <;> simp [Builtin.copy_, ht0, hys0, hys1, run_underlying hu, hln, run_sizeOf' hsz, hmin, hrc', goInt, storeCells]
              · cases vs with
                | slice hm hc =>
                  obtain ⟨w2, q1, q2, q3, q4⟩ := put_sound (P := P) hput hm vc hr 0
                  refine ⟨.value (.int .i64 (min n len : Nat)), w2, μ, ?_, .int _ _, q2, Ext.refl _, q3⟩
                  simp [Builtin.copy_, ht0, hys0, hys1, run_underlying hu, hln, run_sizeOf' hsz, hmin, hrc', goInt, q1]
                | sempty hm a =>
                  have : cs = [] := List.length_eq_zero_iff.1 (by rw [hl]; simp)
                  exact absurd this hne
            · cases h
          · cases h
          · split at h
            · rename_i hne
              cases h
              subst hne
              have : cs' = [] := by have := vc.1; simpa using this.symm
              subst this
              refine ⟨.value (.int .i64 (min n len : Nat)), w, μ, ?_, .int _ _, hr, Ext.refl _, Blw.refl _ _⟩
              cases base' <;> simp [Builtin.copy_, ht0, hys0, hys1, run_underlying hu, hln, run_sizeOf' hsz, hmin, hrc', goInt, storeCells]
            · cases h
        · cases h
      · cases h
    · cases h
  · cases h

theorem range_sound {t : TypeId} {x x' v : Value} (h : aRange P σ t x = some (v, σ')) (hx : VR ex μ x x') (hr : HR ex B μ σ w) :
    okh P ex B μ σ' (do pure (.value (← Instr.range t x'))) v w := by
  unfold aRange at h
  split at h
  · rename_i s hu
    cases h
    rw [hx.string_of]
    have hμ : (μ ++ [some (⟨w.heap.size, 0, 0, 0, 0⟩ : Ent)])[σ.length]? = some (some ⟨w.heap.size, 0, 0, 0, 0⟩) := by rw [← hr.len]; simp
    refine ⟨.value (.pointer (some ⟨w.heap.size, 0, none⟩)), { w with heap := w.heap.push (.stringIter s 0) }, μ ++ [some ⟨w.heap.size, 0, 0, 0, 0⟩], ?_, ?_, ?_, Ext.snoc _ _, Blw.push' rfl hr.hB⟩
    · simp [Instr.range, run_underlying hu]
    · have := VR.ptr (ex := ex) (o := 0) hμ
      exact this
    · exact hr.push (.stringIter s 0) _ _ rfl rfl ⟨rfl, by simp, hr.new⟩
  · cases h

theorem next_sound {it it' v : Value} {ty : TypeId} (h : aNext σ it = some (v, σ')) (hi : VR ex μ it it') (hr : HR ex B μ σ w) :
    okh P ex B μ σ' (do pure (.value (← Instr.next it' true ty))) v w := by
  unfold aNext at h
  split at h
  · split at h
    · rename_i b _ s pos hb
      cases hi with
      | ptr hm =>
        rename_i en
        obtain ⟨h1, h2, h3⟩ := hr.obj _ _ _ hb hm
        have hget : (getObj en.cb).run P w = .ok (.stringIter s pos) w := by simp [getObj, Sem.run, h2]
        split at h
        · rename_i hlt
          cases h
          refine ⟨.value (.tuple #[.bool true, .int .i64 pos, .int .i32 (Utf8.decode s pos).1]), setBlock w en.cb (.stringIter s (pos + (Utf8.decode s pos).2)), μ, ?_, ?_, ?_, Ext.refl _, Blw.setBlock' w _ h3⟩
          · have hset : (setObj en.cb (.stringIter s (pos + (Utf8.decode s pos).2))).run P w = .ok () (setBlock w en.cb (.stringIter s (pos + (Utf8.decode s pos).2))) := by
              simp [setObj, Sem.run, h2, setBlock]
            simp [Instr.next, h1, hget, hlt, hset, goInt]
          · exact VRs.toTuple' (c := [_, _, _]) (c' := [_, _, _]) (.cons (.bool _) (.cons (.int _ _) (.cons (.int _ _) .nil)))
          · refine hr.setAt hb hm rfl (fun _ => rfl) ⟨h1, ?_, h3⟩
            rw [setBlock_heap, if_pos ⟨rfl, (Array.getElem?_eq_some_iff.1 h2).1⟩]
        · rename_i hlt
          cases h
          refine ⟨.value (.tuple #[.bool false]), w, μ, ?_, VRs.toTuple' (c := [_]) (c' := [_]) (.cons (.bool _) .nil), hr, Ext.refl _, Blw.refl _ _⟩
          simp [Instr.next, h1, hget, hlt]
    · cases h
  · cases h

theorem aMem_sound {fr : List Value} {a : Act} {o : Oper} {v : Value} (h : aMem P fr σ o.op = some (v, σ')) (hf : FrR ex μ fr a.tmps) (hr : HR ex B μ σ w) :
    okh P ex B μ σ' (execOp a.eval o) v w := by
  obtain ⟨dst, op, ty, pos, after, guard⟩ := o
  unfold aMem at h
  simp only at h
  split at h
  · split at h
    · rename_i h1
      split at h
      · rename_i v' h2
        cases h
        obtain ⟨u, r1, r2⟩ := load_sound (P := P) h2 (aev_sound hf h1) hr
        exact ⟨.value u, w, μ, by simp [execOp, r1], r2, hr, Ext.refl _, Blw.refl _ _⟩
      · cases h
    · cases h
  · split at h
    · rename_i h1 h2
      split at h
      · rename_i h3
        cases h
        obtain ⟨w2, r1, r2, r3⟩ := store_sound (P := P) h3 (aev_sound hf h1) (aev_sound hf h2) hr
        exact ⟨.skip, w2, μ, by simp [execOp, r1], rfl, r2, Ext.refl _, r3⟩
      · cases h
    · cases h
  · split at h
    · rename_i z hz; cases h; exact alloc_sound hz hr
    · cases h
  · split at h
    · rename_i h1; cases h; exact box_sound (aev_sound hf h1) hr
    · cases h
  · split at h
    · rename_i t ps _ vs h1
      split at h
      · rename_i v' h2
        cases h
        obtain ⟨u, r1, r2⟩ := build_sound h2 (mapP_sound hf h1)
        refine ⟨.value u, w, μ, ?_, r2, hr, Ext.refl _, Blw.refl _ _⟩
        have := r1 w
        simp only [execOp, Sem.run_bind]
        rw [show Array.map (fun (x : Nat × Operand) => (x.1, a.eval x.2)) ps = (List.map (fun (x : Nat × Operand) => (x.1, a.eval x.2)) ps.toList).toArray by rw [← Array.toList_map, Array.toArray_toList]] 
        rw [this]
        rfl
      · cases h
    · cases h
  · split at h
    · rename_i t n ps _ vs h1
      obtain ⟨nx, w2, μ2, r1, r2⟩ := buildSlice_sound h (mapP_sound hf h1) hr
      refine ⟨nx, w2, μ2, ?_, r2⟩
      rw [← r1]
      simp only [execOp]
      rw [show Array.map (fun (x : Nat × Operand) => (x.1, a.eval x.2)) ps = (List.map (fun (x : Nat × Operand) => (x.1, a.eval x.2)) ps.toList).toArray by rw [← Array.toList_map, Array.toArray_toList]]
    · cases h
  · split at h
    · rename_i h1 h2; exact make_sound h (aev_sound hf h1) (aev_sound hf h2) hr
    · cases h
  · split at h
    · rename_i h1; exact range_sound h (aev_sound hf h1) hr
    · cases h
  · split at h
    · rename_i h1; exact next_sound h (aev_sound hf h1) hr
    · cases h
  · split at h
    · rename_i args tys _ vs h1
      have := mapO_sound hf h1
      exact append_sound (ty := ty) h (ys := Array.map a.eval args) (by simpa using this) hr
    · cases h
  · split at h
    · rename_i args tys _ vs h1
      have := mapO_sound hf h1
      exact copy_sound (ty := ty) h (ys := Array.map a.eval args) (by simpa using this) hr
    · cases h
  · cases h

end Go.Lk
