import Derived.Test.YtmomainjlncogaaLkPA
import Derived.Test.YtmomainjlncogaaLkLP
import Derived.ChangeSlices
section
/- Arguments that lie in memory. -/
namespace Go.Lk
open Go.WideShapes Go.ChangeShapes
set_option linter.unusedSimpArgs false
set_option linter.unusedVariables false
/-- A row of cells that is only read. -/
theorem row_arg {W : World} {a : Addr} {vs : List Value} (hs : a.spot = none) (hb : ∃ c el fr, W.heap[a.block]? = some (.cells c el fr)) (hf : ∀ (j : Nat) (v : Value), vs[j]? = some v → ∃ c, W.cell? (a.add j) = some c ∧ VR false [] v c) :
    HR false (old W) [some ⟨a.block, if vs.length = 0 then 0 else a.off, vs.length, 0, 0⟩] [.row vs false none] W := by
  obtain ⟨c, el, ⟨lo, hi⟩, hb⟩ := hb
  have one : ∀ (b : Nat) (o : AObj), [AObj.row vs false none][b]? = some o → b = 0 ∧ o = .row vs false none := by
    intro b o h
    have := lt_of_some h
    have e0 : b = 0 := by simpa using this
    subst e0
    simp at h
    exact ⟨rfl, h.symm⟩
  have hcell : ∀ (j : Nat) (v : Value), vs[j]? = some v → ∃ x, c[a.off + j]? = some x ∧ VR false [] v x := by
    intro j v hj
    obtain ⟨x, hx, hv⟩ := hf j v hj
    refine ⟨x, ?_, hv⟩
    unfold World.cell? at hx
    have hbl : (a.add j).block = a.block := by unfold Addr.add; split <;> rfl
    have hof : (a.add j).off = a.off + j := by
      unfold Addr.add
      split
      · rename_i h; omega
      · rfl
    have hsp : (a.add j).spot = none := by
      unfold Addr.add
      split
      · exact hs
      · rfl
    rw [hbl, hb, hof, hsp] at hx
    simpa using hx
  refine ⟨rfl, fun _ h => h, fun b o h _ => ?_, fun b o e h he => ?_, fun b b' o o' e e' h h' _ _ ho => ?_⟩
  · obtain ⟨rfl, rfl⟩ := one b o h
    exact ⟨_, rfl⟩
  · obtain ⟨rfl, rfl⟩ := one b o h
    simp only [List.getElem?_cons_zero, Option.some.injEq] at he
    subst he
    refine ⟨rfl, rfl, c, el, lo, hi, hb, ?_, ⟨?_, fun i v hi => ?_⟩, fun h => by cases h⟩
    · show (if vs.length = 0 then 0 else a.off) + vs.length + 0 * 0 ≤ c.size
      split
      · omega
      · obtain ⟨x, hx, _⟩ := hcell (vs.length - 1) vs[vs.length - 1] (List.getElem?_eq_getElem (by omega))
        have := (Array.getElem?_eq_some_iff.1 hx).1
        omega
    · simp only [List.length_take, List.length_drop, Array.length_toList]
      split
      · omega
      · obtain ⟨x, hx, _⟩ := hcell (vs.length - 1) vs[vs.length - 1] (List.getElem?_eq_getElem (by omega))
        have := (Array.getElem?_eq_some_iff.1 hx).1
        omega
    · have hlt := lt_of_some hi
      obtain ⟨x, hx, hv⟩ := hcell i v hi
      refine ⟨x, ?_, hv.mono (fun b e h => by simp at h)⟩
      rw [List.getElem?_take, if_pos hlt, List.getElem?_drop]
      have : ¬ vs.length = 0 := by omega
      simp only [this, if_false]
      simpa using hx
  · obtain ⟨rfl, rfl⟩ := one b o h
    cases ho
/-- The slice that holds it. -/
theorem slice_arg {W : World} {a : Addr} {vs : List Value} {z len cap : Nat} (hs : a.spot = none) (hl : len ≤ cap) (hz : 0 < z) (hv : vs.length = cap * z) :
    VR false [some ⟨a.block, if vs.length = 0 then 0 else a.off, vs.length, 0, 0⟩] (.slice (some ⟨0, 0, some z⟩) len cap) (.slice (some a) len cap) := by
  by_cases h0 : cap = 0
  · subst h0
    have : len = 0 := by omega
    subst this
    exact .sempty (e := ⟨a.block, if vs.length = 0 then 0 else a.off, vs.length, 0, 0⟩) rfl a
  · have hn : ¬ vs.length = 0 := by
      rw [hv]
      have := Nat.mul_pos (show 0 < cap by omega) hz
      omega
    have h := VR.slice (ex := false) (μ := [some (⟨a.block, a.off, vs.length, 0, 0⟩ : Ent)]) (b := 0) (o := 0) (sz := z) (len := len) (cap := cap) (cap' := cap) (e := ⟨a.block, a.off, vs.length, 0, 0⟩) rfl (.inl rfl)
    simp only [hn, if_false]
    have ea : a = ⟨a.block, a.off + 0, none⟩ := by cases a; simp at hs ⊢; exact hs
    rw [ea]
    exact h
/-- What a slice argument is. -/
theorem wide_slice {P : Program} {W : World} {r : Reach} {base : Nat} {t e : TypeId} {v : Value} (ht : P.underlying t = some (.slice e)) (h : Value.okWide P W r base t v) :
    v = .slice none 0 0 ∨ ∃ a len cap, v = .slice (some a) len cap ∧ len ≤ cap ∧ a.spot = none ∧ ∃ c el fr, W.heap[a.block]? = some (.cells c el fr) := by
  have h1 : Cell.ok P W r base t v := by
    have h2 : Cell.okWide P W r base t v := by
      unfold Value.okWide at h
      rw [ht] at h
      exact h
    unfold Cell.okWide at h2
    rw [ht] at h2
    cases v <;> exact h2
  unfold Cell.ok at h1
  rw [ht] at h1
  cases v with
  | slice a len cap =>
    cases a with
    | none =>
      cases len with
      | zero => cases cap with
        | zero => exact .inl rfl
        | succ n => exact h1.elim
      | succ n => exact h1.elim
    | some a =>
      obtain ⟨k1, k2, _, k3, row, cells, k4, _⟩ := h1
      refine .inr ⟨a, len, cap, rfl, k1, k3, ?_⟩
      unfold World.shape? at k4
      split at k4
      · rename_i c el fr hh; exact ⟨c, el, fr, hh⟩
      · cases k4
  | _ => exact h1.elim
/-- A slice of whole numbers. -/
theorem ints_arg {H : Type} {enc : TypeId × Value → H} {P : Program} {W : World} {r : Reach} {base b2 : Nat} {held : Bool} {t e : TypeId} {k : IntKind} {v : Value} {d : DataW H} {ps : List MemPlace} (ht : P.underlying t = some (.slice e)) (he : P.underlying e = some (.int k)) (hc : P.cellsOf e = 1)
    (hok : Value.okWide P W r base t v) (h : ∃ m, DataW.trod enc P W b2 (fun _ => true) held m t v.cells.toList = some (d, ps)) :
    v = .slice none 0 0 ∨ ∃ (w : Nat → Int) (len cap : Nat) (μ : List (Option Ent)), len ≤ cap ∧ HR false (old W) μ [.row (rowOf (fun i => [.int k (w i)]) cap) false none] W ∧ VR false μ (.slice (some ⟨0, 0, some 1⟩) len cap) v := by
  rcases wide_slice ht hok with rfl | ⟨a, len, cap, rfl, hl, hs, hb⟩
  · exact .inl rfl
  · right
    obtain ⟨m, h⟩ := h
    rcases open_ints ht he hc h with ⟨h0, _⟩ | ⟨a', len', cap', zs, h0, _, _, _, hz, _, hcell, _⟩
    · simp [Value.cells] at h0
    · simp only [Value.cells, List.cons.injEq, Value.slice.injEq, Option.some.injEq, and_true] at h0
      obtain ⟨rfl, rfl, rfl⟩ := h0
      simp only [if_true] at hz
      have hlen : (rowOf (fun i => [Value.int k (zs.getD i 0)]) cap).length = cap * 1 := rowOf_len (f := fun i => [Value.int k (zs.getD i 0)]) (s := 1) (fun _ => rfl) cap
      have hget : ∀ (j : Nat) (v : Value), (rowOf (fun i => [Value.int k (zs.getD i 0)]) cap)[j]? = some v → j < cap ∧ v = .int k (zs.getD j 0) := by
        intro j v hj
        have hlt := lt_of_some hj
        rw [hlen, Nat.mul_one] at hlt
        have h1 := rowOf_at (f := fun i => [Value.int k (zs.getD i 0)]) (s := 1) (fun _ => rfl) (k := j) hlt
        have h2 := congrArg (fun l => l[0]?) h1
        simp only [List.getElem?_take, List.getElem?_drop, Nat.mul_one, Nat.add_zero, hj] at h2
        simp at h2
        exact ⟨hlt, h2⟩
      refine ⟨fun i => zs.getD i 0, len, cap, _, hl, row_arg hs hb (fun j v hj => ?_), slice_arg (W := W) hs hl (by decide) hlen⟩
      obtain ⟨hlt, rfl⟩ := hget j v hj
      exact ⟨_, hcell j (by omega), .int _ _⟩
theorem addr_add (a : Addr) (n m : Nat) : (a.add n).add m = a.add (n + m) := by
  unfold Addr.add
  by_cases hn : n = 0
  · subst hn; simp
  · by_cases hm : m = 0
    · subst hm; simp [hn]
    · have : ¬ n + m = 0 := by omega
      simp [hn, hm, this, Nat.add_assoc]
theorem trod_float {H : Type} {enc : TypeId × Value → H} {P : Program} {w : World} {base : Nat} {spare : Nat → Bool} {held : Bool} {fuel : Nat} {t : TypeId} {cs : List Value} {x : DataW H × List MemPlace} {k : FloatKind} (ht : P.underlying t = some (.float k)) (h : DataW.trod enc P w base spare held fuel t cs = some x) : ∃ b, cs = [.float k b] := by
  cases fuel with
  | zero => simp [DataW.trod] at h
  | succ n =>
    unfold DataW.trod at h
    rw [ht] at h
    split at h <;> simp_all
/-- The cells of a slice's elements. -/
theorem slice_cells {H : Type} {enc : TypeId × Value → H} {P : Program} {W : World} {b2 : Nat} {held : Bool} {t e : TypeId} {m len cap s : Nat} {a : Addr} {x : DataW H × List MemPlace} (ht : P.underlying t = some (.slice e)) (hc : P.cellsOf e = s)
    (h : DataW.trod enc P W b2 (fun _ => true) held m t [.slice (some a) len cap] = some x) (i : Nat) (hi : i < cap) :
    ∃ cs n y, cs.length = s ∧ (∀ j, j < s → W.cell? (a.add (i * s + j)) = cs[j]?) ∧ DataW.trod enc P W b2 (fun _ => true) held n e cs = some y := by
  rcases DataW.trod_slice ht h with ⟨h0, _⟩ | ⟨a', len', cap', elems, rest, n, _, h0, _, _, hl, _, hlen, hel, hsp, _⟩
  · simp at h0
  · simp only [List.cons.injEq, Value.slice.injEq, Option.some.injEq, and_true] at h0
    obtain ⟨rfl, rfl, rfl⟩ := h0
    obtain ⟨hrl, hr⟩ := hsp rfl
    have hb : ∃ y, (W.cells? b2 (a.add (i * P.cellsOf e)) (P.cellsOf e)).bind (DataW.trod enc P W b2 (fun _ => true) held n e) = some y := by
      by_cases h1 : i < len
      · rw [hel i h1]
        exact ⟨_, List.getElem?_eq_getElem (by omega)⟩
      · have := hr (i - len) (by omega)
        rw [show len + (i - len) = i by omega] at this
        rw [this]
        exact ⟨_, List.getElem?_eq_getElem (by omega)⟩
    obtain ⟨y, hy⟩ := hb
    rw [Option.bind_eq_some_iff] at hy
    obtain ⟨cs, h1, h2⟩ := hy
    obtain ⟨_, h3, h4⟩ := World.cells?_some h1
    rw [hc] at h3 h4
    exact ⟨cs, n, y, h3, fun j hj => by rw [← h4 j hj, addr_add], h2⟩
def cellF (v : Option Value) : Nat := match v with | some (.float .f64 b) => can b | _ => 0
/-- A slice of points. -/
theorem points_arg {H : Type} {enc : TypeId × Value → H} {P : Program} {W : World} {r : Reach} {base b2 : Nat} {held : Bool} {t e u : TypeId} {v : Value} {d : DataW H} {ps : List MemPlace} (ht : P.underlying t = some (.slice e)) (he0 : (match P.underlying e with | some (.struct fs) => some (fs.toList.map fun f => (f.type, f.offset)) | _ => none) = some [(u, 0), (u, 1)]) (hc : P.cellsOf e = 2)
    (hu : P.underlying u = some (.float .f64)) (cu : P.cellsOf u = 1)
    (hok : Value.okWide P W r base t v) (h : ∃ m, DataW.trod enc P W b2 (fun _ => true) held m t v.cells.toList = some (d, ps)) :
    v = .slice none 0 0 ∨ ∃ (px py : Nat → Nat) (len cap : Nat) (μ : List (Option Ent)), len ≤ cap ∧ HR false (old W) μ [.row (rowOf (fun i => [.float .f64 (px i), .float .f64 (py i)]) cap) false none] W ∧ VR false μ (.slice (some ⟨0, 0, some 2⟩) len cap) v := by
  obtain ⟨f0, f1, he, t0, t1, o0, o1⟩ : ∃ f0 f1 : Field, P.underlying e = some (.struct #[f0, f1]) ∧ f0.type = u ∧ f1.type = u ∧ f0.offset = 0 ∧ f1.offset = 1 := by
    split at he0
    · rename_i fs hfs
      obtain ⟨fs⟩ := fs
      match fs, he0 with
      | [f0, f1], he0 =>
        simp at he0
        exact ⟨f0, f1, hfs, he0.1.1, he0.2.1, he0.1.2, he0.2.2⟩
      | [], he0 => simp at he0
      | [f0], he0 => simp at he0
      | f0 :: f1 :: f2 :: fs, he0 => simp at he0
    · cases he0
  rcases wide_slice ht hok with rfl | ⟨a, len, cap, rfl, hl, hs, hb⟩
  · exact .inl rfl
  · right
    obtain ⟨m, h⟩ := h
    have hcell := slice_cells (s := 2) ht hc h
    let px : Nat → Nat := fun i => cellF (W.cell? (a.add (i * 2 + 0)))
    let py : Nat → Nat := fun i => cellF (W.cell? (a.add (i * 2 + 1)))
    have hlen : (rowOf (fun i => [Value.float .f64 (px i), .float .f64 (py i)]) cap).length = cap * 2 := rowOf_len (f := fun i => [Value.float .f64 (px i), .float .f64 (py i)]) (s := 2) (fun _ => rfl) cap
    refine ⟨px, py, len, cap, _, hl, row_arg hs hb (fun j v hj => ?_), slice_arg (W := W) hs hl (by decide) hlen⟩
    have hlt := lt_of_some hj
    rw [hlen] at hlt
    have hk : j / 2 < cap := by omega
    obtain ⟨cs, n, y, hcs, hcell, htr⟩ := hcell (j / 2) hk
    obtain ⟨y0, y1, n', _, _, h0, h1⟩ := trod_struct2 he htr
    rw [t0, o0, cu] at h0
    rw [t1, o1, cu] at h1
    obtain ⟨x0, e0⟩ := trod_float hu h0
    obtain ⟨x1, e1⟩ := trod_float hu h1
    match cs, hcs, e0, e1, hcell with
    | [c0, c1], _, e0, e1, hcell =>
      simp only [List.drop_zero, List.take_succ_cons, List.take_zero, List.cons.injEq, and_true, List.drop_succ_cons] at e0 e1
      subst e0 e1
      have g0 : W.cell? (a.add (j / 2 * 2 + 0)) = some (.float .f64 x0) := hcell 0 (by decide)
      have g1 : W.cell? (a.add (j / 2 * 2 + 1)) = some (.float .f64 x1) := hcell 1 (by decide)
      have hrow := rowOf_at (f := fun i => [Value.float .f64 (px i), .float .f64 (py i)]) (s := 2) (fun _ => rfl) (k := j / 2) hk
      have h2 := congrArg (fun l => l[j % 2]?) hrow
      simp only [List.getElem?_take, List.getElem?_drop, show j % 2 < 2 by omega, if_true] at h2
      rw [show j / 2 * 2 + j % 2 = j by omega, hj] at h2
      rcases Nat.mod_two_eq_zero_or_one j with hm | hm
      · rw [hm] at h2
        simp only [List.getElem?_cons_zero, Option.some.injEq] at h2
        have ep : px (j / 2) = can x0 := by show cellF (W.cell? (a.add (j / 2 * 2 + 0))) = _; rw [g0]; rfl
        rw [show j / 2 * 2 + 0 = j by omega] at g0
        refine ⟨_, g0, ?_⟩
        rw [h2, ep]
        exact .float _ _
      · rw [hm] at h2
        simp only [List.getElem?_cons_succ, List.getElem?_cons_zero, Option.some.injEq] at h2
        have ep : py (j / 2) = can x1 := by show cellF (W.cell? (a.add (j / 2 * 2 + 1))) = _; rw [g1]; rfl
        rw [show j / 2 * 2 + 1 = j by omega] at g1
        refine ⟨_, g1, ?_⟩
        rw [h2, ep]
        exact .float _ _
end Go.Lk
end

section
/- A slice of truth values in memory. -/
namespace Go.Lk
set_option linter.unusedVariables false
set_option linter.unusedSimpArgs false
theorem trod_boolc {H : Type} {enc : TypeId × Value → H} {P : Program} {w : World} {base : Nat} {spare : Nat → Bool} {held : Bool} {fuel : Nat} {t : TypeId} {cs : List Value} {x : DataW H × List MemPlace} (ht : P.underlying t = some .bool) (h : DataW.trod enc P w base spare held fuel t cs = some x) : ∃ b, cs = [.bool b] := by
  cases fuel with
  | zero => simp [DataW.trod] at h
  | succ n =>
    unfold DataW.trod at h
    rw [ht] at h
    split at h <;> simp_all
def cellB (v : Option Value) : Bool := match v with | some (.bool b) => b | _ => false
theorem bools_arg {H : Type} {enc : TypeId × Value → H} {P : Program} {W : World} {r : Reach} {base b2 : Nat} {held : Bool} {t e : TypeId} {v : Value} {d : DataW H} {ps : List MemPlace} (ht : P.underlying t = some (.slice e)) (he : P.underlying e = some .bool) (hc : P.cellsOf e = 1)
    (hok : Value.okWide P W r base t v) (h : ∃ m, DataW.trod enc P W b2 (fun _ => true) held m t v.cells.toList = some (d, ps)) :
    v = .slice none 0 0 ∨ ∃ (sg : Nat → Bool) (len cap : Nat) (μ : List (Option Ent)), len ≤ cap ∧ HR false (old W) μ [.row (rowOf (fun i => [.bool (sg i)]) cap) false none] W ∧ VR false μ (.slice (some ⟨0, 0, some 1⟩) len cap) v := by
  rcases wide_slice ht hok with rfl | ⟨a, len, cap, rfl, hl, hs, hb⟩
  · exact .inl rfl
  · right
    obtain ⟨m, h⟩ := h
    have hcell := slice_cells (s := 1) ht hc h
    let sg : Nat → Bool := fun i => cellB (W.cell? (a.add (i * 1 + 0)))
    have hx : ∀ k, k < cap → ∃ x0, W.cell? (a.add (k * 1 + 0)) = some (.bool x0) := by
      intro k hk
      obtain ⟨cs, n, y, hcs, hcell, htr⟩ := hcell k hk
      obtain ⟨x0, rfl⟩ := trod_boolc he htr
      exact ⟨x0, hcell 0 (by decide)⟩
    have hlen : (rowOf (fun i => [Value.bool (sg i)]) cap).length = cap * 1 := rowOf_len (f := fun i => [Value.bool (sg i)]) (s := 1) (fun _ => rfl) cap
    refine ⟨sg, len, cap, _, hl, row_arg hs hb (fun j v hj => ?_), slice_arg (W := W) hs hl (by decide) hlen⟩
    have hlt := lt_of_some hj
    rw [hlen] at hlt
    have hk : j < cap := by omega
    obtain ⟨x0, g0⟩ := hx j hk
    have hrow := rowOf_at (f := fun i => [Value.bool (sg i)]) (s := 1) (fun _ => rfl) (k := j) hk
    have h2 := congrArg (fun l => l[0]?) hrow
    simp only [List.getElem?_take, List.getElem?_drop, Nat.lt_one_iff, if_true, Nat.mul_one, Nat.add_zero] at h2
    rw [hj] at h2
    simp only [List.getElem?_cons_zero, Option.some.injEq] at h2
    have ep : sg j = x0 := by show cellB (W.cell? (a.add (j * 1 + 0))) = _; rw [g0]; rfl
    rw [show j * 1 + 0 = j by omega] at g0
    refine ⟨_, g0, ?_⟩
    rw [h2, ep]
    exact .bool _
end Go.Lk
end

section
/- Arguments: structs of floats. -/
namespace Go.Lk
set_option linter.unusedSimpArgs false
set_option linter.unusedVariables false
section
variable {P : Program} {W : World} {r : Reach} {base : Nat} {t u : TypeId} {v : Value}
theorem wide_agg' {ts : List TypeId} (ht : (P.underlying t).map isAggD = some true) (hc : P.cellTypes P.depth t = some ts) (hl : P.cellsOf t = ts.length) (h : Value.okWide P W r base t v) :
    ∃ cs : Array Value, v = .agg cs ∧ cs.size = ts.length ∧ ∀ (i : Nat) (u : TypeId), ts[i]? = some u → ∃ x, cs[i]? = some x ∧ Cell.okWide P W r base u x := by
  cases hu : P.underlying t with
  | none => rw [hu] at ht; cases ht
  | some d => rw [hu] at ht; exact wide_agg hu (by simpa using ht) hc hl h
theorem wide_two (hu : P.underlying u = some (.float .f64)) (ht : (P.underlying t).map isAggD = some true) (hc : P.cellTypes P.depth t = some [u, u]) (hl : P.cellsOf t = 2) (h : Value.okWide P W r base t v) :
    ∃ a b, v = .agg #[.float .f64 a, .float .f64 b] ∧ a < 2 ^ 64 ∧ b < 2 ^ 64 := by
  obtain ⟨cs, rfl, hs, hcs⟩ := wide_agg' ht hc hl h
  obtain ⟨x, hx, hx'⟩ := hcs 0 u rfl
  obtain ⟨y, hy, hy'⟩ := hcs 1 u rfl
  obtain ⟨a, rfl, ha⟩ := cell_float hu hx'
  obtain ⟨b, rfl, hb⟩ := cell_float hu hy'
  refine ⟨a, b, ?_, ha, hb⟩
  congr 1
  apply Array.ext_getElem?
  intro i
  match i with
  | 0 => rw [hx]; rfl
  | 1 => rw [hy]; rfl
  | i + 2 => rw [Array.getElem?_eq_none (by rw [hs]; simp), Array.getElem?_eq_none (by simp)]
theorem wide_three (hu : P.underlying u = some (.float .f64)) (ht : (P.underlying t).map isAggD = some true) (hc : P.cellTypes P.depth t = some [u, u, u]) (hl : P.cellsOf t = 3) (h : Value.okWide P W r base t v) :
    ∃ a b c, v = .agg #[.float .f64 a, .float .f64 b, .float .f64 c] ∧ a < 2 ^ 64 ∧ b < 2 ^ 64 ∧ c < 2 ^ 64 := by
  obtain ⟨cs, rfl, hs, hcs⟩ := wide_agg' ht hc hl h
  obtain ⟨x, hx, hx'⟩ := hcs 0 u rfl
  obtain ⟨y, hy, hy'⟩ := hcs 1 u rfl
  obtain ⟨z, hz, hz'⟩ := hcs 2 u rfl
  obtain ⟨a, rfl, ha⟩ := cell_float hu hx'
  obtain ⟨b, rfl, hb⟩ := cell_float hu hy'
  obtain ⟨c, rfl, hc'⟩ := cell_float hu hz'
  refine ⟨a, b, c, ?_, ha, hb, hc'⟩
  congr 1
  apply Array.ext_getElem?
  intro i
  match i with
  | 0 => rw [hx]; rfl
  | 1 => rw [hy]; rfl
  | 2 => rw [hz]; rfl
  | i + 3 => rw [Array.getElem?_eq_none (by rw [hs]; simp), Array.getElem?_eq_none (by simp)]
end
theorem VR.pt {μ : List (Option Ent)} (a b : Nat) : VR false μ (.agg #[.float .f64 (can a), .float .f64 (can b)]) (.agg #[.float .f64 a, .float .f64 b]) :=
  VRs.toAgg (VRs.cons (VR.f64 a) (VRs.cons (VR.f64 b) VRs.nil))
theorem VR.pt3 {μ : List (Option Ent)} (a b c : Nat) : VR false μ (.agg #[.float .f64 (can a), .float .f64 (can b), .float .f64 (can c)]) (.agg #[.float .f64 a, .float .f64 b, .float .f64 c]) :=
  VRs.toAgg (VRs.cons (VR.f64 a) (VRs.cons (VR.f64 b) (VRs.cons (VR.f64 c) VRs.nil)))
end Go.Lk
end

section
/- A struct of a slice of truth values and four whole numbers in memory. -/
namespace Go.Lk
set_option linter.unusedVariables false
set_option linter.unusedSimpArgs false
theorem stand_arg {H : Type} {enc : TypeId × Value → H} {P : Program} {W : World} {r : Reach} {base b2 : Nat} {held : Bool} {t t0 t1 t2 e : TypeId} {v : Value} {d : DataW H} {ps : List MemPlace}
    (hu : (match P.underlying t with | some (.struct fs) => (match fs.toList with | f0 :: _ => f0.type == t0 && f0.offset == 0 | [] => false) | _ => false) = true)
    (ha : (P.underlying t).map isAggD = some true) (hct : P.cellTypes P.depth t = some [t0, t1, t2, t2, t2]) (hl : P.cellsOf t = 5) (h0 : P.cellsOf t0 = 1) (ht0 : P.underlying t0 = some (.slice e)) (he : P.underlying e = some .bool) (hc : P.cellsOf e = 1)
    (ht1 : P.underlying t1 = some (.int .i32)) (ht2 : P.underlying t2 = some (.int .u8))
    (hok : Value.okWide P W r base t v) (h : ∃ m, DataW.trod enc P W b2 (fun _ => true) held m t v.cells.toList = some (d, ps)) :
    ∃ (x : Value) (K : Int) (n2 n3 n4 : Nat), v = .agg #[x, .int .i32 K, .int .u8 (iN n2), .int .u8 (iN n3), .int .u8 (iN n4)] ∧ n2 ≤ 255 ∧ n3 ≤ 255 ∧ n4 ≤ 255 ∧
      (x = .slice none 0 0 ∨ ∃ (sg : Nat → Bool) (len cap : Nat) (μ : List (Option Ent)), len ≤ cap ∧ HR false (old W) μ [.row (rowOf (fun i => [.bool (sg i)]) cap) false none] W ∧ VR false μ (.slice (some ⟨0, 0, some 1⟩) len cap) x) := by
  obtain ⟨cs, rfl, hs, hcs⟩ := wide_agg' ha hct (by rw [hl]; rfl) hok
  obtain ⟨x, hx, hx'⟩ := hcs 0 t0 rfl
  obtain ⟨y1, hy1, hy1'⟩ := hcs 1 t1 rfl
  obtain ⟨y2, hy2, hy2'⟩ := hcs 2 t2 rfl
  obtain ⟨y3, hy3, hy3'⟩ := hcs 3 t2 rfl
  obtain ⟨y4, hy4, hy4'⟩ := hcs 4 t2 rfl
  obtain ⟨K, rfl, _, _⟩ := cell_int ht1 hy1'
  obtain ⟨z2, rfl, a2, b2'⟩ := cell_int ht2 hy2'
  obtain ⟨z3, rfl, a3, b3⟩ := cell_int ht2 hy3'
  obtain ⟨z4, rfl, a4, b4⟩ := cell_int ht2 hy4'
  have m0 : IntKind.u8.min = 0 := by decide
  have m1 : IntKind.u8.max = 255 := by decide
  rw [m0] at a2 a3 a4
  rw [m1] at b2' b3 b4
  have ok0 : Value.okWide P W r base t0 x := by unfold Value.okWide; rw [ht0]; exact hx'
  have hcells : cs = #[x, .int .i32 K, .int .u8 z2, .int .u8 z3, .int .u8 z4] := by
    apply Array.ext_getElem?
    intro i
    match i with
    | 0 => rw [hx]; rfl
    | 1 => rw [hy1]; rfl
    | 2 => rw [hy2]; rfl
    | 3 => rw [hy3]; rfl
    | 4 => rw [hy4]; rfl
    | i + 5 => rw [Array.getElem?_eq_none (by rw [hs]; simp), Array.getElem?_eq_none (by simp)]
  have tr0 : ∃ d0 p0 m, DataW.trod enc P W b2 (fun _ => true) held m t0 x.cells.toList = some (d0, p0) := by
    obtain ⟨m, h⟩ := h
    cases m with
    | zero => simp [DataW.trod] at h
    | succ m =>
      cases hut : P.underlying t with
      | none => rw [hut] at hu; cases hu
      | some D =>
        rw [hut] at hu
        cases D with
        | struct fs =>
          simp only at hu
          unfold DataW.trod at h
          rw [hut] at h
          simp only at h
          split at h
          · cases hfl : fs.toList with
            | nil => rw [hfl] at hu; cases hu
            | cons f0 l =>
              rw [hfl] at hu h
              simp only [Bool.and_eq_true, beq_iff_eq] at hu
              obtain ⟨q1, q2⟩ := hu
              rw [List.mapM_cons] at h
              cases hd : DataW.trod enc P W b2 (fun _ => true) held m f0.type (((Value.agg cs).cells.toList.drop f0.offset).take (P.cellsOf f0.type)) with
              | none => rw [hd] at h; simp at h
              | some y =>
                rw [q1, q2, h0] at hd
                have hcl : ((Value.agg cs).cells.toList.drop 0).take 1 = [x] := by
                  show (cs.toList.drop 0).take 1 = [x]
                  rw [hcells]; rfl
                rw [hcl] at hd
                have hxc : x.cells.toList = [x] := by
                  rcases wide_slice ht0 ok0 with rfl | ⟨_, _, _, rfl, _⟩ <;> rfl
                obtain ⟨d0, p0⟩ := y
                exact ⟨d0, p0, m, by rw [hxc]; exact hd⟩
          · cases h
        | _ => cases hu
  obtain ⟨d0, p0, m, tr⟩ := tr0
  refine ⟨x, K, z2.toNat, z3.toNat, z4.toNat, ?_, by omega, by omega, by omega, bools_arg ht0 he hc ok0 ⟨m, tr⟩⟩
  rw [hcells, iN_eq, iN_eq, iN_eq, Int.toNat_of_nonneg a2, Int.toNat_of_nonneg a3, Int.toNat_of_nonneg a4]
end Go.Lk
end
