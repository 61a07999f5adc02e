/- Arguments that lie in memory. -/
import Derived.Test.YtmomainjlncogaaLkPA
import Derived.Test.YtmomainjlncogaaLkLP
import Derived.ChangeSlices
namespace Go.Lk
open Go.WideShapes Go.ChangeShapes
set_option linter.unusedSimpArgs false
set_option linter.unusedVariables false
/-- A row of cells that is only read. -/
theorem row_arg {W : World} {a : Addr} {vs : List Value} (hs : a.spot = none) (hb : ∃ c el fr, W.heap[a.block]? = some (.cells c el fr)) (hf : ∀ (j : Nat) (v : Value), vs[j]? = some v → ∃ c, W.cell? (a.add j) = some c ∧ VR false [] v c) :
    HR false (old W) [some ⟨a.block, if vs.length = 0 then 0 else a.off, vs.length, 0, 0⟩] [.row vs false none] W := by
  obtain ⟨c, el, ⟨lo, hi⟩, hb⟩ := hb
  have one : ∀ (b : Nat) (o : AObj), [AObj.row vs false none][b]? = some o → b = 0 ∧ o = .row vs false none := by
    intro b o h
    have := lt_of_some h
    have e0 : b = 0 := by simpa using this
    subst e0
    simp at h
    exact ⟨rfl, h.symm⟩
  have hcell : ∀ (j : Nat) (v : Value), vs[j]? = some v → ∃ x, c[a.off + j]? = some x ∧ VR false [] v x := by
    intro j v hj
    obtain ⟨x, hx, hv⟩ := hf j v hj
    refine ⟨x, ?_, hv⟩
    unfold World.cell? at hx
    have hbl : (a.add j).block = a.block := by unfold Addr.add; split <;> rfl
    have hof : (a.add j).off = a.off + j := by
      unfold Addr.add
      split
      · rename_i h; omega
      · rfl
    have hsp : (a.add j).spot = none := by
      unfold Addr.add
      split
      · exact hs
      · rfl
    rw [hbl, hb, hof, hsp] at hx
    simpa using hx
  refine ⟨rfl, fun _ h => h, fun b o h _ => ?_, fun b o e h he => ?_, fun b b' o o' e e' h h' _ _ ho => ?_⟩
  · obtain ⟨rfl, rfl⟩ := one b o h
    exact ⟨_, rfl⟩
  · obtain ⟨rfl, rfl⟩ := one b o h
    simp only [List.getElem?_cons_zero, Option.some.injEq] at he
    subst he
    refine ⟨rfl, rfl, c, el, lo, hi, hb, ?_, ⟨?_, fun i v hi => ?_⟩, fun h => by cases h⟩
    · show (if vs.length = 0 then 0 else a.off) + vs.length + 0 * 0 ≤ c.size
      split
      · omega
      · obtain ⟨x, hx, _⟩ := hcell (vs.length - 1) vs[vs.length - 1] (List.getElem?_eq_getElem (by omega))
        have := (Array.getElem?_eq_some_iff.1 hx).1
        omega
    · simp only [List.length_take, List.length_drop, Array.length_toList]
      split
      · omega
      · obtain ⟨x, hx, _⟩ := hcell (vs.length - 1) vs[vs.length - 1] (List.getElem?_eq_getElem (by omega))
        have := (Array.getElem?_eq_some_iff.1 hx).1
        omega
    · have hlt := lt_of_some hi
      obtain ⟨x, hx, hv⟩ := hcell i v hi
      refine ⟨x, ?_, hv.mono (fun b e h => by simp at h)⟩
      rw [List.getElem?_take, if_pos hlt, List.getElem?_drop]
      have : ¬ vs.length = 0 := by omega
      simp only [this, if_false]
      simpa using hx
  · obtain ⟨rfl, rfl⟩ := one b o h
    cases ho
/-- The slice that holds it. -/
theorem slice_arg {W : World} {a : Addr} {vs : List Value} {z len cap : Nat} (hs : a.spot = none) (hl : len ≤ cap) (hz : 0 < z) (hv : vs.length = cap * z) :
    VR false [some ⟨a.block, if vs.length = 0 then 0 else a.off, vs.length, 0, 0⟩] (.slice (some ⟨0, 0, some z⟩) len cap) (.slice (some a) len cap) := by
  by_cases h0 : cap = 0
  · subst h0
    have : len = 0 := by omega
    subst this
    exact .sempty (e := ⟨a.block, if vs.length = 0 then 0 else a.off, vs.length, 0, 0⟩) rfl a
  · have hn : ¬ vs.length = 0 := by
      rw [hv]
      have := Nat.mul_pos (show 0 < cap by omega) hz
      omega
    have h := VR.slice (ex := false) (μ := [some (⟨a.block, a.off, vs.length, 0, 0⟩ : Ent)]) (b := 0) (o := 0) (sz := z) (len := len) (cap := cap) (cap' := cap) (e := ⟨a.block, a.off, vs.length, 0, 0⟩) rfl (.inl rfl)
    simp only [hn, if_false]
    have ea : a = ⟨a.block, a.off + 0, none⟩ := by cases a; simp at hs ⊢; exact hs
    rw [ea]
    exact h
/-- What a slice argument is. -/
theorem wide_slice {P : Program} {W : World} {r : Reach} {base : Nat} {t e : TypeId} {v : Value} (ht : P.underlying t = some (.slice e)) (h : Value.okWide P W r base t v) :
    v = .slice none 0 0 ∨ ∃ a len cap, v = .slice (some a) len cap ∧ len ≤ cap ∧ a.spot = none ∧ ∃ c el fr, W.heap[a.block]? = some (.cells c el fr) := by
  have h1 : Cell.ok P W r base t v := by
    have h2 : Cell.okWide P W r base t v := by
      unfold Value.okWide at h
      rw [ht] at h
      exact h
    unfold Cell.okWide at h2
    rw [ht] at h2
    cases v <;> exact h2
  unfold Cell.ok at h1
  rw [ht] at h1
  cases v with
  | slice a len cap =>
    cases a with
    | none =>
      cases len with
      | zero => cases cap with
        | zero => exact .inl rfl
        | succ n => exact h1.elim
      | succ n => exact h1.elim
    | some a =>
      obtain ⟨k1, k2, _, k3, row, cells, k4, _⟩ := h1
      refine .inr ⟨a, len, cap, rfl, k1, k3, ?_⟩
      unfold World.shape? at k4
      split at k4
      · rename_i c el fr hh; exact ⟨c, el, fr, hh⟩
      · cases k4
  | _ => exact h1.elim
/-- A slice of whole numbers. -/
theorem ints_arg {H : Type} {enc : TypeId × Value → H} {P : Program} {W : World} {r : Reach} {base b2 : Nat} {held : Bool} {t e : TypeId} {k : IntKind} {v : Value} {d : DataW H} {ps : List MemPlace} (ht : P.underlying t = some (.slice e)) (he : P.underlying e = some (.int k)) (hc : P.cellsOf e = 1)
    (hok : Value.okWide P W r base t v) (h : ∃ m, DataW.trod enc P W b2 (fun _ => true) held m t v.cells.toList = some (d, ps)) :
    v = .slice none 0 0 ∨ ∃ (w : Nat → Int) (len cap : Nat) (μ : List (Option Ent)), len ≤ cap ∧ HR false (old W) μ [.row (rowOf (fun i => [.int k (w i)]) cap) false none] W ∧ VR false μ (.slice (some ⟨0, 0, some 1⟩) len cap) v := by
  rcases wide_slice ht hok with rfl | ⟨a, len, cap, rfl, hl, hs, hb⟩
  · exact .inl rfl
  · right
    obtain ⟨m, h⟩ := h
    rcases open_ints ht he hc h with ⟨h0, _⟩ | ⟨a', len', cap', zs, h0, _, _, _, hz, _, hcell, _⟩
    · simp [Value.cells] at h0
    · simp only [Value.cells, List.cons.injEq, Value.slice.injEq, Option.some.injEq, and_true] at h0
      obtain ⟨rfl, rfl, rfl⟩ := h0
      simp only [if_true] at hz
      have hlen : (rowOf (fun i => [Value.int k (zs.getD i 0)]) cap).length = cap * 1 := rowOf_len (f := fun i => [Value.int k (zs.getD i 0)]) (s := 1) (fun _ => rfl) cap
      have hget : ∀ (j : Nat) (v : Value), (rowOf (fun i => [Value.int k (zs.getD i 0)]) cap)[j]? = some v → j < cap ∧ v = .int k (zs.getD j 0) := by
        intro j v hj
        have hlt := lt_of_some hj
        rw [hlen, Nat.mul_one] at hlt
        have h1 := rowOf_at (f := fun i => [Value.int k (zs.getD i 0)]) (s := 1) (fun _ => rfl) (k := j) hlt
        have h2 := congrArg (fun l => l[0]?) h1
        simp only [List.getElem?_take, List.getElem?_drop, Nat.mul_one, Nat.add_zero, hj] at h2
        simp at h2
        exact ⟨hlt, h2⟩
      refine ⟨fun i => zs.getD i 0, len, cap, _, hl, row_arg hs hb (fun j v hj => ?_), slice_arg (W := W) hs hl (by decide) hlen⟩
      obtain ⟨hlt, rfl⟩ := hget j v hj
      exact ⟨_, hcell j (by omega), .int _ _⟩
theorem addr_add (a : Addr) (n m : Nat) : (a.add n).add m = a.add (n + m) := by
  unfold Addr.add
  by_cases hn : n = 0
  · subst hn; simp
  · by_cases hm : m = 0
    · subst hm; simp [hn]
    · have : ¬ n + m = 0 := by omega
      simp [hn, hm, this, Nat.add_assoc]
theorem trod_float {H : Type} {enc : TypeId × Value → H} {P : Program} {w : World} {base : Nat} {spare : Nat → Bool} {held : Bool} {fuel : Nat} {t : TypeId} {cs : List Value} {x : DataW H × List MemPlace} {k : FloatKind} (ht : P.underlying t = some (.float k)) (h : DataW.trod enc P w base spare held fuel t cs = some x) : ∃ b, cs = [.float k b] := by
  cases fuel with
  | zero => simp [DataW.trod] at h
  | succ n =>
    unfold DataW.trod at h
    rw [ht] at h
    split at h <;> simp_all
/-- The cells of a slice's elements. -/
theorem slice_cells {H : Type} {enc : TypeId × Value → H} {P : Program} {W : World} {b2 : Nat} {held : Bool} {t e : TypeId} {m len cap s : Nat} {a : Addr} {x : DataW H × List MemPlace} (ht : P.underlying t = some (.slice e)) (hc : P.cellsOf e = s)
    (h : DataW.trod enc P W b2 (fun _ => true) held m t [.slice (some a) len cap] = some x) (i : Nat) (hi : i < cap) :
    ∃ cs n y, cs.length = s ∧ (∀ j, j < s → W.cell? (a.add (i * s + j)) = cs[j]?) ∧ DataW.trod enc P W b2 (fun _ => true) held n e cs = some y := by
  rcases DataW.trod_slice ht h with ⟨h0, _⟩ | ⟨a', len', cap', elems, rest, n, _, h0, _, _, hl, _, hlen, hel, hsp, _⟩
  · simp at h0
  · simp only [List.cons.injEq, Value.slice.injEq, Option.some.injEq, and_true] at h0
    obtain ⟨rfl, rfl, rfl⟩ := h0
    obtain ⟨hrl, hr⟩ := hsp rfl
    have hb : ∃ y, (W.cells? b2 (a.add (i * P.cellsOf e)) (P.cellsOf e)).bind (DataW.trod enc P W b2 (fun _ => true) held n e) = some y := by
      by_cases h1 : i < len
      · rw [hel i h1]
        exact ⟨_, List.getElem?_eq_getElem (by omega)⟩
      · have := hr (i - len) (by omega)
        rw [show len + (i - len) = i by omega] at this
        rw [this]
        exact ⟨_, List.getElem?_eq_getElem (by omega)⟩
    obtain ⟨y, hy⟩ := hb
    rw [Option.bind_eq_some_iff] at hy
    obtain ⟨cs, h1, h2⟩ := hy
    obtain ⟨_, h3, h4⟩ := World.cells?_some h1
    rw [hc] at h3 h4
    exact ⟨cs, n, y, h3, fun j hj => by rw [← h4 j hj, addr_add], h2⟩
def cellF (v : Option Value) : Nat := match v with | some (.float .f64 b) => can b | _ => 0
/-- A slice of points. -/
theorem points_arg {H : Type} {enc : TypeId × Value → H} {P : Program} {W : World} {r : Reach} {base b2 : Nat} {held : Bool} {t e u : TypeId} {v : Value} {d : DataW H} {ps : List MemPlace} (ht : P.underlying t = some (.slice e)) (he0 : (match P.underlying e with | some (.struct fs) => some (fs.toList.map fun f => (f.type, f.offset)) | _ => none) = some [(u, 0), (u, 1)]) (hc : P.cellsOf e = 2)
    (hu : P.underlying u = some (.float .f64)) (cu : P.cellsOf u = 1)
    (hok : Value.okWide P W r base t v) (h : ∃ m, DataW.trod enc P W b2 (fun _ => true) held m t v.cells.toList = some (d, ps)) :
    v = .slice none 0 0 ∨ ∃ (px py : Nat → Nat) (len cap : Nat) (μ : List (Option Ent)), len ≤ cap ∧ HR false (old W) μ [.row (rowOf (fun i => [.float .f64 (px i), .float .f64 (py i)]) cap) false none] W ∧ VR false μ (.slice (some ⟨0, 0, some 2⟩) len cap) v := by
  obtain ⟨f0, f1, he, t0, t1, o0, o1⟩ : ∃ f0 f1 : Field, P.underlying e = some (.struct #[f0, f1]) ∧ f0.type = u ∧ f1.type = u ∧ f0.offset = 0 ∧ f1.offset = 1 := by
    split at he0
    · rename_i fs hfs
      obtain ⟨fs⟩ := fs
      match fs, he0 with
      | [f0, f1], he0 =>
        simp at he0
        exact ⟨f0, f1, hfs, he0.1.1, he0.2.1, he0.1.2, he0.2.2⟩
      | [], he0 => simp at he0
      | [f0], he0 => simp at he0
      | f0 :: f1 :: f2 :: fs, he0 => simp at he0
    · cases he0
  rcases wide_slice ht hok with rfl | ⟨a, len, cap, rfl, hl, hs, hb⟩
  · exact .inl rfl
  · right
    obtain ⟨m, h⟩ := h
    have hcell := slice_cells (s := 2) ht hc h
    let px : Nat → Nat := fun i => cellF (W.cell? (a.add (i * 2 + 0)))
    let py : Nat → Nat := fun i => cellF (W.cell? (a.add (i * 2 + 1)))
    have hlen : (rowOf (fun i => [Value.float .f64 (px i), .float .f64 (py i)]) cap).length = cap * 2 := rowOf_len (f := fun i => [Value.float .f64 (px i), .float .f64 (py i)]) (s := 2) (fun _ => rfl) cap
    refine ⟨px, py, len, cap, _, hl, row_arg hs hb (fun j v hj => ?_), slice_arg (W := W) hs hl (by decide) hlen⟩
    have hlt := lt_of_some hj
    rw [hlen] at hlt
    have hk : j / 2 < cap := by omega
    obtain ⟨cs, n, y, hcs, hcell, htr⟩ := hcell (j / 2) hk
    obtain ⟨y0, y1, n', _, _, h0, h1⟩ := trod_struct2 he htr
    rw [t0, o0, cu] at h0
    rw [t1, o1, cu] at h1
    obtain ⟨x0, e0⟩ := trod_float hu h0
    obtain ⟨x1, e1⟩ := trod_float hu h1
    match cs, hcs, e0, e1, hcell with
    | [c0, c1], _, e0, e1, hcell =>
      simp only [List.drop_zero, List.take_succ_cons, List.take_zero, List.cons.injEq, and_true, List.drop_succ_cons] at e0 e1
      subst e0 e1
      have g0 : W.cell? (a.add (j / 2 * 2 + 0)) = some (.float .f64 x0) := hcell 0 (by decide)
      have g1 : W.cell? (a.add (j / 2 * 2 + 1)) = some (.float .f64 x1) := hcell 1 (by decide)
      have hrow := rowOf_at (f := fun i => [Value.float .f64 (px i), .float .f64 (py i)]) (s := 2) (fun _ => rfl) (k := j / 2) hk
      have h2 := congrArg (fun l => l[j % 2]?) hrow
      simp only [List.getElem?_take, List.getElem?_drop, show j % 2 < 2 by omega, if_true] at h2
      rw [show j / 2 * 2 + j % 2 = j by omega, hj] at h2
      rcases Nat.mod_two_eq_zero_or_one j with hm | hm
      · rw [hm] at h2
        simp only [List.getElem?_cons_zero, Option.some.injEq] at h2
        have ep : px (j / 2) = can x0 := by show cellF (W.cell? (a.add (j / 2 * 2 + 0))) = _; rw [g0]; rfl
        rw [show j / 2 * 2 + 0 = j by omega] at g0
        refine ⟨_, g0, ?_⟩
        rw [h2, ep]
        exact .float _ _
      · rw [hm] at h2
        simp only [List.getElem?_cons_succ, List.getElem?_cons_zero, Option.some.injEq] at h2
        have ep : py (j / 2) = can x1 := by show cellF (W.cell? (a.add (j / 2 * 2 + 1))) = _; rw [g1]; rfl
        rw [show j / 2 * 2 + 1 = j by omega] at g1
        refine ⟨_, g1, ?_⟩
        rw [h2, ep]
        exact .float _ _
end Go.Lk
