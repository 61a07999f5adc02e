/- New blocks, as the world makes them; holes in the renaming. -/
import Derived.Test.YtmomainjlncogaaLkCC
namespace Go.Lk
set_option linter.unusedSimpArgs false
set_option linter.unusedVariables false

variable {ex : Bool} {μ μ' : List (Option Ent)} {P : Program} {B : Nat → Prop} {σ σ' : AHeap} {w w' : World}

def Mk.conc : Mk → Nat → Value
  | .p, n => .pointer (some ⟨n, 0, none⟩)
  | .s _ len cap, n => .slice (some ⟨n, 0, none⟩) len cap

/-- An operation that makes one new row. -/
def okA (P : Program) (ex : Bool) (μ : List (Option Ent)) (s : Sem Next) (m : Mk) (row : AObj) (w : World) : Prop :=
  ∃ (cs cs' : List Value) (elem : TypeId), row = .row cs true none ∧ VRs ex μ cs cs' ∧
    s.run P w = .ok (.value (m.conc w.heap.size)) { w with heap := w.heap.push (.cells cs'.toArray elem (0, 0)) }

theorem run_newRow (elem : TypeId) (cs : Array Value) (w : World) : (newRow elem cs).run P w = .ok ⟨w.heap.size, 0, none⟩ { w with heap := w.heap.push (.cells cs elem (0, 0)) } := by
  simp [newRow]

theorem okA_alloc {t : TypeId} {z : Value} (h : tZero P t = some z) (w : World) :
    okA P ex μ (do pure (.value (← Instr.alloc t true (.tuple #[])))) .p (.row z.cells.toList true none) w := by
  obtain ⟨hz, hv⟩ := zero_sound (ex := ex) (μ := μ) h
  exact ⟨_, _, t, rfl, hv.cells, by simp [Instr.alloc, hz, newVar, run_newRow, Mk.conc]⟩

theorem okA_box {t : TypeId} {v v' : Value} (hv : VR ex μ v v') (w : World) :
    okA P ex μ (do pure (.value (← Instr.box t v'))) .p (.row v.cells.toList true none) w :=
  ⟨_, _, t, rfl, hv.cells, by simp [Instr.box, newVar, run_newRow, Mk.conc]⟩

theorem okA_buildSlice {t : TypeId} {len : Nat} {ps ps' : List (Nat × Value)} {v : Value} (h : aBuildSlice P σ t len ps = some (v, σ')) (hp : PartsR ex μ ps ps') (w : World) :
    ∃ m row, v = Mk.at m σ.length ∧ σ' = σ ++ [row] ∧ okA P ex μ (do pure (.value (← Instr.buildSlice t len ps'.toArray))) m row w := by
  unfold aBuildSlice at h
  split at h
  · rename_i e hu
    split at h
    · rename_i size z hs hz
      split at h
      · rename_i hc
        obtain ⟨hle, hzs, hs0⟩ := hc
        split at h
        · rename_i cells hfill
          cases h
          obtain ⟨hzr, hzv⟩ := zero_sound (ex := ex) (μ := μ) hz
          have hz0 : z.cells.size ≠ 0 := by rw [hzs]; exact hs0
          have this : ¬ (len * size > 2 ^ 24) := by omega
          refine ⟨.s size len len, _, rfl, rfl, ?_⟩
          by_cases hl : len * size = 0
          · obtain ⟨r', h1, h2⟩ := fill_sound (place' := fun i => some (i * size, size)) ps ps' _ #[] _ (fun _ _ h => h) hfill (by rw [hl]; exact VRs.nil) hp
            refine ⟨cells, r'.toList, e, rfl, h2, ?_⟩
            have hA : (Array.range (len * size)).map (fun x => (#[] : Array Value)[x % (#[] : Array Value).size]!) = #[] := Array.eq_empty_of_size_eq_zero (by simp; omega)
            simp only [Instr.buildSlice, Sem.run_bind, run_underlying hu, Result.andThen_ok, run_sizeOf' hs, if_neg this, if_pos hl, Sem.run_pure, hA, h1, run_newRow, Array.toArray_toList]
            rfl
          · obtain ⟨r', h1, h2⟩ := fill_sound (place' := fun i => some (i * size, size)) ps ps' _ ((Array.range (len * size)).map (z.cells[· % z.cells.size]!)) _ (fun _ _ h => h) hfill (by rw [zrow_eq hz0]; exact VRs.zrow hzv.cells _) hp
            refine ⟨cells, r'.toList, e, rfl, h2, ?_⟩
            simp only [Instr.buildSlice, Sem.run_bind, run_underlying hu, Result.andThen_ok, run_sizeOf' hs, if_neg this, if_neg hl, Sem.run_pure, hzr, h1, run_newRow, Array.toArray_toList]
            rfl
        · cases h
      · cases h
    · cases h
  · cases h

theorem okA_make {t : TypeId} {l l' c c' v : Value} (h : aMake P σ t l c = some (v, σ')) (hl : VR ex μ l l') (hc : VR ex μ c c') (w : World) :
    ∃ m row, v = Mk.at m σ.length ∧ σ' = σ ++ [row] ∧ okA P ex μ (do pure (.value (← Instr.makeSlice t l' c'))) m row w := by
  unfold aMake at h
  split at h
  · rename_i e k len k' cap hu
    rw [hl.int_of, hc.int_of]
    split at h
    · rename_i inf hi
      split at h
      · rename_i hb
        obtain ⟨h0, h1, h2, h3⟩ := hb
        split at h
        · rename_i z hz
          split at h
          · rename_i hzz
            obtain ⟨hzs, hs0, hzo⟩ := hzz
            cases h
            obtain ⟨hzr, hzv⟩ := zero_sound (ex := ex) (μ := μ) hz
            have hz0 : z.cells.size ≠ 0 := by rw [hzs]; exact hs0
            refine ⟨.s inf.size len.toNat cap.toNat, _, rfl, rfl, _, _, e, rfl, VRs.zrow hzv.cells (cap.toNat * inf.size), ?_⟩
            have hwl := wrap_small h0 (by omega)
            have hwc := wrap_small (n := cap) (by omega) (by omega)
            have hlt : ∀ n : Int, n ≤ cap → 0 ≤ n → (decide (n < 0) || decide ((inf.bytes : Int) * n > 2 ^ 48)) = false := by
              intro n hn hn0
              have : (inf.bytes : Int) * n ≤ cap * inf.bytes := by
                rw [Int.mul_comm]
                exact Int.mul_le_mul_of_nonneg_right hn (by omega)
              simp
              omega
            have hbad : ((decide (cap < 0) || decide ((inf.bytes : Int) * cap > 2 ^ 48)) || decide (len < 0) || decide (len > cap)) = false := by
              rw [hlt cap (by omega) (by omega)]
              simp
              omega
            obtain ⟨i1, i2⟩ := info_runs (P := P) hi w
            have hA : ((Array.range (cap.toNat * inf.size)).map (z.cells[· % z.cells.size]!)) = (zrow z.cells.toList (cap.toNat * inf.size)).toArray := by
              rw [← zrow_eq hz0]
            by_cases hn : cap.toNat * inf.size = 0
            · have hA0 : ((Array.range (cap.toNat * inf.size)).map (fun x => (#[] : Array Value)[x % (#[] : Array Value).size]!)) = (zrow z.cells.toList (cap.toNat * inf.size)).toArray := by
                rw [hn]
                rw [show zrow z.cells.toList 0 = [] from rfl]
                exact Array.eq_empty_of_size_eq_zero (by simp)
              simp only [Instr.makeSlice, Sem.run_bind, run_underlying hu, Result.andThen_ok, asInt, asIntOf, Sem.run_pure, i1, hwl, hwc, hbad, Bool.false_eq_true, if_false, run_askRoom, i2, if_pos hn, hA0, run_newRow]
              rfl
            · simp only [Instr.makeSlice, Sem.run_bind, run_underlying hu, Result.andThen_ok, asInt, asIntOf, Sem.run_pure, i1, hwl, hwc, hbad, Bool.false_eq_true, if_false, run_askRoom, i2, if_neg hn, hzr, hA, run_newRow]
              rfl
          · cases h
        · cases h
      · cases h
    · cases h
  · cases h

theorem Mk.inj {m m' : Mk} {n : Nat} (h : m.at n = m'.at n) : m = m' := by
  cases m <;> cases m' <;> simp [Mk.at] at h ⊢
  exact h

theorem cls3_okA {C : Cfg} {fr : List Value} {a : Act} {o : Oper} {v : Value} (hc : cls C o.op = 3) (h : aOp C fr σ o.op = some (v, σ')) (hf : FrR C.ex μ fr a.tmps) (w : World) :
    ∃ m row, v = Mk.at m σ.length ∧ σ' = σ ++ [row] ∧ okA C.P C.ex μ (execOp a.eval o) m row w := by
  obtain ⟨dst, op, ty, pos, after, guard⟩ := o
  simp only at hc h
  cases op with
  | alloc t =>
    simp only [aOp, isMem, aMem, cond_true] at h
    split at h
    · rename_i z hz; cases h; exact ⟨.p, _, rfl, rfl, okA_alloc hz w⟩
    · cases h
  | box t x =>
    simp only [aOp, isMem, aMem, cond_true] at h
    split at h
    · rename_i v' hv; cases h; exact ⟨.p, _, rfl, rfl, okA_box (aev_sound hf hv) w⟩
    · cases h
  | buildSlice t n ps =>
    simp only [aOp, isMem, aMem, cond_true] at h
    split at h
    · rename_i vs h1
      obtain ⟨m, row, e1, e2, e3⟩ := okA_buildSlice (P := C.P) h (mapP_sound hf h1) w
      refine ⟨m, row, e1, e2, ?_⟩
      simp only [execOp]
      rw [show Array.map (fun (x : Nat × Operand) => (x.1, a.eval x.2)) ps = (List.map (fun (x : Nat × Operand) => (x.1, a.eval x.2)) ps.toList).toArray by rw [← Array.toList_map, Array.toArray_toList]]
      exact e3
    · cases h
  | makeSlice t x y =>
    simp only [aOp, isMem, aMem, cond_true] at h
    split at h
    · rename_i u1 u2 h1 h2
      exact okA_make (P := C.P) h (aev_sound hf h1) (aev_sound hf h2) w
    · cases h
  | call c =>
    obtain ⟨callee, args, tys⟩ := c
    cases callee with
    | value f =>
      cases f with
      | func f =>
        simp only [cls] at hc
        cases hp : C.p f <;> rw [hp] at hc <;> simp only [cond_true, cond_false] at hc
        · cases hq : C.q f <;> rw [hq] at hc <;> simp at hc
        · cases hc
      | _ => simp [cls] at hc
    | invoke r m => simp [cls] at hc
    | builtin b => cases b <;> simp [cls] at hc
  | _ => simp [cls] at hc

/-- A hole is filled with a new block. -/
theorem Sub.fill {c : Nat} {e : Ent} (hc : ∀ e', μ[c]? ≠ some (some e')) : Sub μ (μ.set c (some e)) := by
  intro b e' h
  rw [List.getElem?_set]
  by_cases hb : c = b
  · subst hb; exact absurd h (hc e')
  · rw [if_neg hb]; exact h

theorem HR.fill (h : HR ex B μ σ w) {c : Nat} (hd : σ[c]? = some .dead) (hc : ∀ e', μ[c]? ≠ some (some e')) {cs cs' : List Value} {elem : TypeId} (hv : VRs ex μ cs cs') :
    HR ex B (μ.set c (some ⟨w.heap.size, 0, cs.length, 0, 0⟩)) (σ.set c (.row cs true none)) { w with heap := w.heap.push (.cells cs'.toArray elem (0, 0)) } := by
  have hcl := lt_of_some hd
  have hs := Sub.fill (e := ⟨w.heap.size, 0, cs.length, 0, 0⟩) hc
  have hold : ∀ k, k < w.heap.size → (w.heap.push (.cells cs'.toArray elem (0, 0)))[k]? = w.heap[k]? := fun k hk => by rw [Array.getElem?_push, if_neg (by omega)]
  have key : ∀ (b : Nat) (o1 : AObj), (σ.set c (.row cs true none))[b]? = some o1 → (b = c ∧ o1 = .row cs true none) ∨ (b ≠ c ∧ σ[b]? = some o1) := fun b o1 h1 => by
    rw [List.getElem?_set] at h1
    by_cases hb : c = b
    · subst hb; rw [if_pos rfl, if_pos hcl] at h1; cases h1; exact .inl ⟨rfl, rfl⟩
    · rw [if_neg hb] at h1; exact .inr ⟨fun e => hb e.symm, h1⟩
  have keyμ : ∀ (b : Nat) (e1 : Ent), b ≠ c → (μ.set c (some ⟨w.heap.size, 0, cs.length, 0, 0⟩))[b]? = some (some e1) → μ[b]? = some (some e1) := fun b e1 hb h1 => by
    rw [List.getElem?_set, if_neg (fun e => hb e.symm)] at h1; exact h1
  have keyc : (μ.set c (some ⟨w.heap.size, 0, cs.length, 0, 0⟩))[c]? = some (some ⟨w.heap.size, 0, cs.length, 0, 0⟩) := by
    rw [List.getElem?_set, if_pos rfl, if_pos (by rw [h.len]; exact hcl)]
  refine ⟨by simp [h.len], fun k hk => by have := h.hB k hk; simp; omega, ?_, ?_, ?_⟩
  · intro b o1 h1 hl
    rcases key b o1 h1 with ⟨rfl, rfl⟩ | ⟨hb, h1⟩
    · exact ⟨_, keyc⟩
    · obtain ⟨e1, he1⟩ := h.has b o1 h1 hl
      exact ⟨e1, hs _ _ he1⟩
  · intro b o1 e1 h1 h2
    rcases key b o1 h1 with ⟨rfl, rfl⟩ | ⟨hb, h1⟩
    · rw [keyc] at h2; cases h2
      refine ⟨rfl, rfl, cs'.toArray, elem, 0, 0, by simp, by simp [← hv.1], ?_, fun _ => ⟨h.new, Nat.le_refl _⟩⟩
      simp only [List.drop_zero]
      rw [show cs'.take cs.length = cs' by rw [hv.1, List.take_length]]
      exact hv.mono hs
    · have h2' := keyμ b e1 hb h2
      have k := h.obj b o1 e1 h1 h2'
      exact k.mono hs (fun hl => hold _ (k.lt hl))
  · intro b b' o1 o2 e1 e2 h1 h2 h3 h4 hown hlive hcb
    rcases key b o1 h1 with ⟨rfl, rfl⟩ | ⟨hb, h1⟩
    · rw [keyc] at h3; cases h3
      rcases key b' o2 h2 with ⟨rfl, rfl⟩ | ⟨hb', h2⟩
      · rfl
      · have := (h.obj b' o2 e2 h2 (keyμ b' e2 hb' h4)).lt hlive
        simp only at hcb
        omega
    · have hl1 : o1.live = true := by cases o1 <;> first | rfl | cases hown
      have hlt := (h.obj b o1 e1 h1 (keyμ b e1 hb h3)).lt hl1
      rcases key b' o2 h2 with ⟨rfl, rfl⟩ | ⟨hb', h2⟩
      · rw [keyc] at h4; cases h4
        simp only at hcb
        omega
      · exact h.inj b b' o1 o2 e1 e2 h1 h2 (keyμ b e1 hb h3) (keyμ b' e2 hb' h4) hown hlive hcb

/-- Dead blocks are added. -/
theorem HR.dead (h : HR ex B μ σ w) (n : Nat) : HR ex B (μ ++ List.replicate n none) (σ ++ List.replicate n .dead) w := by
  have keyσ : ∀ (b : Nat) (o1 : AObj), (σ ++ List.replicate n .dead)[b]? = some o1 → σ[b]? = some o1 ∨ o1 = .dead := fun b o1 h1 => by
    rcases Nat.lt_or_ge b σ.length with hb | hb
    · rw [List.getElem?_append_left hb] at h1; exact .inl h1
    · rw [List.getElem?_append_right hb, List.getElem?_replicate] at h1
      split at h1
      · cases h1; exact .inr rfl
      · cases h1
  have keyμ : ∀ (b : Nat) (e1 : Ent), (μ ++ List.replicate n none)[b]? = some (some e1) → μ[b]? = some (some e1) := fun b e1 h1 => by
    rcases Nat.lt_or_ge b μ.length with hb | hb
    · rw [List.getElem?_append_left hb] at h1; exact h1
    · rw [List.getElem?_append_right hb, List.getElem?_replicate] at h1
      split at h1 <;> cases h1
  have hs : Sub μ (μ ++ List.replicate n none) := fun b e h => by
    have hb := lt_of_some h
    rw [List.getElem?_append_left hb]; exact h
  refine ⟨by simp [h.len], h.hB, ?_, ?_, ?_⟩
  · intro b o1 h1 hl
    rcases keyσ b o1 h1 with h1 | rfl
    · obtain ⟨e, he⟩ := h.has b o1 h1 hl; exact ⟨e, hs _ _ he⟩
    · cases hl
  · intro b o1 e1 h1 h2
    rcases keyσ b o1 h1 with h1 | rfl
    · exact (h.obj b o1 e1 h1 (keyμ b e1 h2)).mono hs (fun _ => rfl)
    · trivial
  · intro b b' o1 o2 e1 e2 h1 h2 h3 h4 hown hlive hcb
    rcases keyσ b o1 h1 with h1 | rfl
    · rcases keyσ b' o2 h2 with h2 | rfl
      · exact h.inj b b' o1 o2 e1 e2 h1 h2 (keyμ b e1 h3) (keyμ b' e2 h4) hown hlive hcb
      · cases hlive
    · cases hown
theorem Sub.holes (μ : List (Option Ent)) (n : Nat) : Sub μ (μ ++ List.replicate n none) := fun b e h => by
  have hb := lt_of_some h
  rw [List.getElem?_append_left hb]; exact h

end Go.Lk
