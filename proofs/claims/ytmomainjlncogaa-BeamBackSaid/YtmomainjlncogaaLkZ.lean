/- Operations on memory: append, copy, ranging over a string; all of them. -/
import Derived.Test.YtmomainjlncogaaLkJM
namespace Go.Lk
set_option linter.unusedSimpArgs false
set_option linter.unusedVariables false

variable {ex : Bool} {μ μ' : List (Option Ent)} {P : Program} {B : Nat → Prop} {σ σ' : AHeap} {w w' : World}

theorem lenOf_sound {x x' : Value} {n : Nat} (h : sLen x = some n) (hx : VR ex μ x x') (w : World) : (Builtin.lenOf x').run P w = .ok n w := by
  unfold sLen at h
  split at h
  · cases h; cases hx <;> rfl
  · cases h

theorem growBy_le (need : Nat) : ∀ (r c : Nat), c ≤ need + need / 4 + 192 → Builtin.growBy need r c ≤ need + need / 4 + 192
  | 0, c, h => h
  | r + 1, c, h => by
    unfold Builtin.growBy
    split
    · exact h
    · exact growBy_le need r _ (by omega)

theorem nextcap_le {need cap : Nat} (h : cap < need) : Builtin.nextslicecap need cap ≤ 2 * need + 192 := by
  unfold Builtin.nextslicecap
  split
  · omega
  · split
    · omega
    · have := growBy_le need 4 cap (by omega)
      omega

/-- A block is entered anew where no live one lies. -/
theorem HR.pushAt (h : HR ex B μ σ w) {o : AObj} {e : Ent} (ho : ObjR ex (μ ++ [some e]) B w e o)
    (hfree : ∀ (b : Nat) (o' : AObj) (e' : Ent), σ[b]? = some o' → μ[b]? = some (some e') → o'.live = true → e'.cb ≠ e.cb) : HR ex B (μ ++ [some e]) (σ ++ [o]) w := by
  have key : ∀ (b : Nat) (o1 : AObj) (e1 : Ent), (σ ++ [o])[b]? = some o1 → (μ ++ [some e])[b]? = some e1 →
      (b < σ.length ∧ σ[b]? = some o1 ∧ μ[b]? = some (some e1)) ∨ (b = σ.length ∧ o1 = o ∧ e1 = e) := fun b o1 e1 h1 h2 => by
    rcases Nat.lt_or_ge b σ.length with hb | hb
    · rw [List.getElem?_append_left hb] at h1
      rw [List.getElem?_append_left (by rw [h.len]; exact hb)] at h2
      exact .inl ⟨hb, h1, h2⟩
    · rw [List.getElem?_append_right hb] at h1
      rw [List.getElem?_append_right (by rw [h.len]; exact hb), h.len] at h2
      have hb0 : b - σ.length = 0 := by have := lt_of_some h1; simp at this; omega
      rw [hb0] at h1 h2
      simp at h1 h2
      exact .inr ⟨by omega, h1.symm, h2.symm⟩
  refine ⟨by simp [h.len], h.hB, ?_, ?_, ?_⟩
  · intro b o' h1 hl
    rcases Nat.lt_or_ge b σ.length with hb | hb
    · rw [List.getElem?_append_left hb] at h1
      obtain ⟨e', he'⟩ := h.has b o' h1 hl
      exact ⟨e', Sub.snoc _ _ _ _ he'⟩
    · have := lt_of_some h1
      have hb0 : b = μ.length := by rw [h.len]; simp at this; omega
      subst hb0
      exact ⟨e, by simp⟩
  · intro b o' e' h1 h2
    rcases key b o' e' h1 h2 with ⟨k1, k2, k3⟩ | ⟨_, rfl, rfl⟩
    · exact (h.obj b o' e' k2 k3).mono (Sub.snoc _ _) (fun _ => rfl)
    · exact ho
  · intro b b' o1 o2 e1 e2 h1 h2 h3 h4 hown hlive hcb
    rcases key b o1 e1 h1 h3 with ⟨k1, k2, k3⟩ | ⟨k1, k2, k3⟩
    · rcases key b' o2 e2 h2 h4 with ⟨l1, l2, l3⟩ | ⟨l1, l2, l3⟩
      · exact h.inj b b' o1 o2 e1 e2 k2 l2 k3 l3 hown hlive hcb
      · subst l3
        have hl : o1.live = true := by cases o1 <;> first | rfl | cases hown
        exact absurd hcb (hfree b o1 e1 k2 k3 hl)
    · rcases key b' o2 e2 h2 h4 with ⟨l1, l2, l3⟩ | ⟨l1, l2, l3⟩
      · subst k3
        exact absurd hcb.symm (hfree b' o2 e2 l2 l3 hlive)
      · omega

theorem kill_length (σ : AHeap) (b : Nat) : (kill σ b).length = σ.length := by
  unfold kill; split <;> simp
theorem HR.killed (h : HR ex B μ σ w) (b : Nat) : HR ex B μ (Lk.kill σ b) w := by
  unfold Lk.kill
  split
  · exact h.kill b
  · exact h

/-- append of a slice, behind its look at the types. -/
def appendPlain (e : TypeId) (size len cap : Nat) (base : Option Addr) (x : Value) : Sem Value := do
  let n ← Builtin.lenOf x
  let need := len + n
  if need ≤ cap then
    let new ← Builtin.firstCells size n x
    if let some a := base then storeCells (a.add (len * size)) new.toList
    pure (.slice base need cap)
  else
    if (need : Int) > IntKind.i64.max ∧ (← typeInfo e).bytes = 0 then runtimePanic (.error "growslice: len out of range")
    if Builtin.nextslicecap need cap * (← typeInfo e).bytes > 2 ^ 48 then (do
      if !(← Builtin.mayShare size len n base x) then mark .noRoom
      unsupported (.resourceLimit "append: a slice or a string whose bytes no memory bears"))
    let newCap ← choose (.appendCap need cap e)
    askRoom (newCap * (← typeInfo e).bytes)
    let old ← Builtin.firstCells size len (.slice base len cap)
    let new ← Builtin.firstCells size n x
    let rest := Builtin.zeroCells (← zeroValue e).cells (newCap - need)
    pure (.slice (some (← newRow e (old ++ new ++ rest))) need newCap)

theorem run_append_plain {tys : Array TypeId} {ys : Array Value} {ty t t2 e : TypeId} {d2 : TypeDesc} {inf : TypeInfo} {base : Option Addr} {len cap : Nat} {x : Value} {w : World}
    (ht0 : tys[0]? = some t) (ht1 : tys[1]? = some t2) (hy0 : ys[0]? = some (.slice base len cap)) (hy1 : ys[1]? = some x) (hu : P.underlying t = some (.slice e)) (hu2 : P.underlying t2 = some d2)
    (hd2 : isIntD d2 = false) (hi : P.info? e = some inf) :
    (Builtin.append_ tys ty ys).run P w = (appendPlain e inf.size len cap base x).run P w := by
  obtain ⟨i1, i2⟩ := info_runs (P := P) hi w
  unfold Builtin.append_ appendPlain
  simp only [ht0, ht1, hy0, hy1]
  rw [Sem.run_bind, run_underlying hu, Result.andThen_ok]
  simp only
  rw [Sem.run_bind, i2, Result.andThen_ok]
  cases d2 <;> first | (cases hd2; done) | skip
  all_goals
    simp only [Sem.run_bind, run_underlying hu2, Result.andThen_ok, Sem.run_pure, Bool.false_eq_true, if_false, false_or, Bool.not_false, if_true]
    rfl

theorem run_plain_fit {e : TypeId} {size : Nat} {base : Option Addr} {len cap n : Nat} {x : Value} {cs : List Value} {w w2 : World}
    (hn : (Builtin.lenOf x).run P w = .ok n w) (hfit : len + n ≤ cap) (hc : (Builtin.firstCells size n x).run P w = .ok cs.toArray w)
    (hs : match base with | some a => (storeCells (a.add (len * size)) cs 0).run P w = .ok () w2 | none => w2 = w) :
    (appendPlain e size len cap base x).run P w = .ok (.slice base (len + n) cap) w2 := by
  unfold appendPlain
  rw [Sem.run_bind, hn, Result.andThen_ok]
  simp only [if_pos hfit]
  rw [Sem.run_bind, hc, Result.andThen_ok]
  cases base with
  | none => simp only at hs; subst hs; rfl
  | some a => simp only at hs ⊢; rw [Sem.run_bind, hs]; rfl

theorem run_plain_grow {e : TypeId} {inf : TypeInfo} {base : Option Addr} {len cap n : Nat} {x zz : Value} {old new : List Value} {w : World} (hi : P.info? e = some inf)
    (hn : (Builtin.lenOf x).run P w = .ok n w) (hno : ¬ len + n ≤ cap) (hbig : (len + n) * inf.bytes ≤ 70368744177664) (hb1 : inf.bytes ≤ 1048576) (hbig2 : len + n ≤ 70368744177664)
    (ho : ∀ w' : World, w'.heap = w.heap → (Builtin.firstCells inf.size len (.slice base len cap)).run P w' = .ok old.toArray w') (hc : ∀ w' : World, w'.heap = w.heap → (Builtin.firstCells inf.size n x).run P w' = .ok new.toArray w')
    (hz : ∀ w, (zeroValue e).run P w = .ok zz w) :
    ∃ k, (appendPlain e inf.size len cap base x).run P w = .ok (.slice (some ⟨w.heap.size, 0, none⟩) (len + n) (len + n + k))
      { w with drawn := w.drawn + 1, heap := w.heap.push (.cells (old.toArray ++ new.toArray ++ Builtin.zeroCells zz.cells k) e (0, 0)) } := by
  have hmax : IntKind.i64.max = 9223372036854775807 := by decide
  have hne1 : ¬ ((((len + n : Nat) : Int) > IntKind.i64.max) ∧ inf.bytes = 0) := by rw [hmax]; omega
  have hne2 : ¬ (Builtin.nextslicecap (len + n) cap * inf.bytes > 2 ^ 48) := by
    have h1 := nextcap_le (need := len + n) (cap := cap) (by omega)
    have h2 : Builtin.nextslicecap (len + n) cap * inf.bytes ≤ (2 * (len + n) + 192) * inf.bytes := Nat.mul_le_mul_right _ h1
    have h3 : (2 * (len + n) + 192) * inf.bytes = 2 * ((len + n) * inf.bytes) + 192 * inf.bytes := by rw [Nat.add_mul, Nat.mul_assoc]
    omega
  refine ⟨w.tape w.drawn (.appendCap (len + n) cap e) % (2 ^ 63 - (len + n)), ?_⟩
  have hch : (choose (.appendCap (len + n) cap e)).run P w = .ok (len + n + w.tape w.drawn (.appendCap (len + n) cap e) % (2 ^ 63 - (len + n))) { w with drawn := w.drawn + 1 } := rfl
  generalize w.tape w.drawn (.appendCap (len + n) cap e) % (2 ^ 63 - (len + n)) = k at hch ⊢
  have j1 := ho { w with drawn := w.drawn + 1 } rfl
  have j2 := hc { w with drawn := w.drawn + 1 } rfl
  have i1 := (info_runs (P := P) hi w).1
  have i2 := (info_runs (P := P) hi { w with drawn := w.drawn + 1 }).1
  have hr : ∀ (a : Nat), (askRoom a).run P { w with drawn := w.drawn + 1 } = .ok () { w with drawn := w.drawn + 1 } := fun a => run_askRoom P _ a
  have hk : len + n + k - (len + n) = k := by omega
  unfold appendPlain
  rw [Sem.run_bind, hn, Result.andThen_ok]
  simp only [if_neg hno]
  rw [Sem.run_bind, i1, Result.andThen_ok]
  simp only [if_neg hne1]
  rw [Sem.run_bind, i1, Result.andThen_ok]
  simp only [if_neg hne2]
  rw [Sem.run_bind, hch, Result.andThen_ok, Sem.run_bind, i2, Result.andThen_ok, Sem.run_bind, hr, Result.andThen_ok, Sem.run_bind, j1, Result.andThen_ok, Sem.run_bind, j2, Result.andThen_ok,
    Sem.run_bind, hz, Result.andThen_ok, hk]
  rfl

/-- The slot of a slice, found. -/
theorem slice_shape {base : Option Addr} {len cap : Nat} {v : Value} (h : VR ex μ (.slice base len cap) v) : ∃ base' cap', v = .slice base' len cap' ∧ cap ≤ cap' := by
  cases h
  · exact ⟨_, _, rfl, Nat.le_refl _⟩
  · rename_i hc; exact ⟨_, _, rfl, by rcases hc with h | ⟨_, _, h⟩ <;> omega⟩
  · exact ⟨_, _, rfl, Nat.le_refl _⟩

theorem zeroCells_size (z : Array Value) (n : Nat) : (Builtin.zeroCells z n).size = n * z.size := by simp [Builtin.zeroCells]

theorem append_sound {tys : Array TypeId} {xs : List Value} {ys : Array Value} {ty : TypeId} {v : Value} (h : aAppend P σ tys.toList xs = some (v, σ')) (hx : VRs ex μ xs ys.toList) (hr : HR ex B μ σ w) :
    okh P ex B μ σ' (do pure (.value (← Builtin.append_ tys ty ys))) v w := by
  unfold aAppend at h
  split at h
  · rename_i t t2 ts s x xr hts
    obtain ⟨s', hys0, vs⟩ := hx.2 0 s rfl
    obtain ⟨x', hys1, vx⟩ := hx.2 1 x rfl
    rw [Array.getElem?_toList] at hys0 hys1
    have ht0 : tys[0]? = some t := by rw [← Array.getElem?_toList, hts]; rfl
    have ht1 : tys[1]? = some t2 := by rw [← Array.getElem?_toList, hts]; rfl
    split at h
    · rename_i e d2 base len cap n hu hu2 hsl
      split at h
      · rename_i inf hinf
        cases hd2 : isIntD d2 <;> rw [hd2] at h <;> simp only [cond_true, cond_false] at h
        case true => cases h
        case false =>
        split at h
        · rename_i new hnew
          obtain ⟨base', cap', rfl, hcapc⟩ := slice_shape vs
          have hplain := run_append_plain (P := P) (ty := ty) (w := w) ht0 ht1 hys0 hys1 hu hu2 hd2 hinf
          obtain ⟨new', hrn', vn, hnl⟩ := cells_sound (P := P) hnew vx hr
          have hrn := hrn' w rfl
          have hln := lenOf_sound (P := P) hsl vx w
          have fin : ∀ {v' : Value} {w' : World} {μ' : List (Option Ent)} {v : Value} {σ' : AHeap}, (appendPlain e inf.size len cap' base' x').run P w = .ok v' w' → VR ex μ' v v' → HR ex B μ' σ' w' → Ext μ μ' → Blw B w w' →
              okh P ex B μ σ' (do pure (.value (← Builtin.append_ tys ty ys))) v w := fun h1 h2 h3 h4 h5 =>
            ⟨.value _, _, _, by rw [Sem.run_bind, hplain, h1]; rfl, h2, h3, h4, h5⟩
          split at h
          · rename_i hfit
            have hfit' : len + n ≤ cap' := by omega
            split at h
            · rename_i b o z
              split at h
              · rename_i σ1 hput
                cases h
                have hslot : ∃ en, μ[b]? = some (some en) ∧ VR ex μ (.slice (some ⟨b, o, some z⟩) (len + n) cap) (.slice base' (len + n) cap') ∧
                    (new ≠ [] → base' = some ⟨en.cb, en.base + o, none⟩) ∧ base' ≠ none := by
                  cases vs with
                  | slice hm hc => exact ⟨_, hm, .slice hm hc, fun _ => rfl, by simp⟩
                  | sempty hm a =>
                    have : n = 0 := by omega
                    subst this
                    refine ⟨_, hm, .sempty hm a, fun hne => ?_, by simp⟩
                    have : new = [] := List.length_eq_zero_iff.1 (by rw [hnl]; simp)
                    exact absurd this hne
                obtain ⟨en, hm, hv2, hb', hnn⟩ := hslot
                by_cases hne : new = []
                · subst hne
                  have : new' = [] := by have := vn.1; simpa using this.symm
                  subst this
                  simp only [aPut, if_true] at hput
                  cases hput
                  refine fin (run_plain_fit hln hfit' hrn (w2 := w) ?_) hv2 hr (Ext.refl _) (Blw.refl _ _)
                  cases base' with
                  | none => rfl
                  | some ad => rfl
                · obtain ⟨w2, q1, q2, q3, q4⟩ := put_sound (P := P) hput hm vn hr 0
                  refine fin (run_plain_fit hln hfit' hrn (w2 := w2) ?_) hv2 q2 (Ext.refl _) q3
                  rw [hb' hne]
                  simp only [add_off, Nat.add_assoc]
                  exact q1
              · cases h
            · cases h
            · split at h
              · rename_i hne
                cases h
                subst hne
                have : new' = [] := by have := vn.1; simpa using this.symm
                subst this
                cases vs
                exact fin (run_plain_fit hln hfit hrn (w2 := w) rfl) (.snil _ _) hr (Ext.refl _) (Blw.refl _ _)
              · cases h
          · rename_i hfit
            split at h
            · rename_i old hold
              obtain ⟨old', hro, vo, hol⟩ := cells_sound (P := P) hold vs hr
              split at h
              · rename_i hbig
                obtain ⟨hb1, hb1', hb2, hone⟩ := hbig
                split at h
                · rename_i zz hzz
                  obtain ⟨hzr, hzv⟩ := zero_sound (ex := ex) (μ := μ) hzz
                  split at h
                  · cases h
                  · rename_i hzs
                    have hzs : zz.cells.size = inf.size := Decidable.not_not.1 hzs
                    have grow : ¬ (len + n ≤ cap') → ∀ (σ0 : AHeap), HR ex B μ σ0 w → σ0.length = σ.length →
                        okh P ex B μ (σ0 ++ [.row (old ++ new) true (some inf.size)]) (do pure (.value (← Builtin.append_ tys ty ys))) (.slice (some ⟨σ.length, 0, some inf.size⟩) (len + n) (len + n)) w := by
                      intro hno σ0 hr0 hl0
                      obtain ⟨k, hg⟩ := run_plain_grow (P := P) (base := base') (cap := cap') (old := old') (new := new') hinf hln hno hb1 hb1' hb2 hro hrn' hzr
                      have hlo : (old' ++ new').length = (len + n) * inf.size := by
                        rw [List.length_append, ← vo.1, ← vn.1, hol, hnl, ← Nat.add_mul]
                      have hla : (old ++ new).length = (len + n) * inf.size := by rw [List.length_append, hol, hnl, ← Nat.add_mul]
                      have hμ : (μ ++ [some (⟨w.heap.size, 0, (len + n) * inf.size, k, inf.size⟩ : Ent)])[σ.length]? = some (some ⟨w.heap.size, 0, (len + n) * inf.size, k, inf.size⟩) := by
                        rw [← hl0, ← hr0.len]; simp
                      refine fin hg (v := .slice (some ⟨σ.length, 0, some inf.size⟩) (len + n) (len + n)) (μ' := μ ++ [some ⟨w.heap.size, 0, (len + n) * inf.size, k, inf.size⟩]) ?_ ?_ (Ext.snoc _ _) ?_
                      · have := VR.slice (ex := ex) (o := 0) (sz := inf.size) (len := len + n) (cap := len + n) (cap' := len + n + k) hμ (.inr ⟨rfl, by simp, rfl⟩)
                        exact this
                      · refine hr0.push (w' := { w with drawn := w.drawn + 1, heap := w.heap.push (.cells (old'.toArray ++ new'.toArray ++ Builtin.zeroCells zz.cells k) e (0, 0)) }) (.cells (old'.toArray ++ new'.toArray ++ Builtin.zeroCells zz.cells k) e (0, 0)) _ _ rfl rfl ?_
                        refine ⟨hla.symm, rfl, old'.toArray ++ new'.toArray ++ Builtin.zeroCells zz.cells k, e, 0, 0, by rw [Array.getElem?_push, if_pos rfl], ?_, ?_, fun _ => ⟨hr.new, Nat.le_refl _⟩⟩
                        · have h1 : old'.length + new'.length = (len + n) * inf.size := by rw [← List.length_append]; exact hlo
                          simp only [Array.size_append, List.size_toArray, zeroCells_size, hzs, Nat.zero_add, hla]
                          omega
                        · have h1 : ((old'.toArray ++ new'.toArray ++ Builtin.zeroCells zz.cells k).toList.drop 0).take (old ++ new).length = old' ++ new' := by
                            rw [hla, ← hlo]
                            simp only [Array.toList_append, List.drop_zero]
                            exact List.take_left' rfl
                          rw [h1]
                          exact (vo.append vn).mono (Sub.snoc _ _)
                      · refine ⟨rfl, rfl, rfl, by simp, fun q hq => ?_⟩
                        show (w.heap.push _)[q]? = w.heap[q]?
                        have := hr.hB q hq
                        rw [Array.getElem?_push, if_neg (by omega)]
                    split at h
                    · cases h
                      cases vs
                      exact grow hfit σ hr rfl
                    · rename_i b o z
                      split at h
                      · rename_i hzc
                        obtain ⟨rfl, hlc⟩ := hzc
                        split at h
                        · rename_i rvs rw opn hrow
                          split at h
                          · rename_i hrw
                            cases h
                            by_cases hno : len + n ≤ cap'
                            · -- there is room
                              cases vs with
                              | sempty hm a => omega
                              | slice hm hc =>
                                rename_i en
                                have hc' : inf.size = en.esz ∧ o + cap * inf.size = en.size ∧ cap' = cap + en.xtra := by
                                  rcases hc with h | h
                                  · omega
                                  · exact h
                                obtain ⟨hesz, hend, hcap'⟩ := hc'
                                obtain ⟨h0, h1, c, el, lo, hi, g2, g3, g4, g5⟩ := hr.obj _ _ _ hrow hm
                                have hopn : ∃ z, opn = some z := by
                                  cases opn with
                                  | none => simp only at h1; omega
                                  | some z => exact ⟨z, rfl⟩
                                obtain ⟨z, rfl⟩ := hopn
                                have hrw' : rw = true := by rcases hrw with h | h; exact h; cases h
                                subst hrw'
                                obtain ⟨hBc, hfz⟩ := g5 rfl
                                have hroom : o + (len + n) * inf.size ≤ en.size + en.xtra * en.esz := by
                                  rw [← hend, ← hesz, Nat.add_assoc, ← Nat.add_mul]
                                  exact Nat.add_le_add_left (Nat.mul_le_mul_right _ (by omega)) _
                                have hnone : new'.all one = true := by
                                  rw [List.all_eq_true] at hone ⊢
                                  intro q hq
                                  obtain ⟨i, hi⟩ := List.getElem?_of_mem hq
                                  have hlt : i < new.length := by rw [vn.1]; exact lt_of_some hi
                                  obtain ⟨y, hy, hvy⟩ := vn.2 i new[i] (List.getElem?_eq_getElem hlt)
                                  rw [hi] at hy; cases hy
                                  rw [hvy.one]
                                  exact hone _ (List.getElem_mem hlt)
                                have hln' : new'.length = n * inf.size := by rw [← vn.1, hnl]
                                have hmul : (len + n) * inf.size = len * inf.size + n * inf.size := Nat.add_mul _ _ _
                                obtain ⟨c', hrun, hc'⟩ := run_storeCells (P := P) (cb := en.cb) (off := en.base + (o + len * inf.size)) hfz new' 0 w c g2 (by rw [hln']; omega) hnone
                                have hcsz : c'.size = c.size := by
                                  have := congrArg List.length hc'
                                  rw [splice_length (by rw [hln']; simp; omega)] at this
                                  simpa using this
                                have hkill : kill σ b = σ.set b .dead := by unfold kill; rw [hrow]
                                refine fin (run_plain_fit hln hno hrn (w2 := setBlock w en.cb (.cells c' el (lo, hi))) ?_) (v := .slice (some ⟨σ.length, 0, some inf.size⟩) (len + n) (len + n))
                                  (μ' := μ ++ [some ⟨en.cb, en.base + o, (len + n) * inf.size, cap' - (len + n), inf.size⟩]) ?_ ?_ (Ext.snoc _ _) (Blw.setBlock' w _ hBc)
                                · simp only [add_off, Nat.add_assoc]
                                  exact hrun
                                · have hμ : (μ ++ [some (⟨en.cb, en.base + o, (len + n) * inf.size, cap' - (len + n), inf.size⟩ : Ent)])[σ.length]? = some (some ⟨en.cb, en.base + o, (len + n) * inf.size, cap' - (len + n), inf.size⟩) := by
                                    rw [← hr.len]; simp
                                  exact VR.slice (ex := ex) (o := 0) (sz := inf.size) (len := len + n) (cap := len + n) (cap' := cap') hμ (.inr ⟨rfl, by simp, by simp only; omega⟩)
                                · rw [hkill]
                                  have hk := hr.setAt (ob := .cells c' el (lo, hi)) (o' := .dead) hrow hm rfl (fun h => by cases h) trivial
                                  refine hk.pushAt ?_ ?_
                                  · have hla : (old ++ new).length = (len + n) * inf.size := by rw [List.length_append, hol, hnl, ← Nat.add_mul]
                                    refine ⟨hla.symm, rfl, c', el, lo, hi, ?_, ?_, ?_, fun _ => ⟨hBc, hfz⟩⟩
                                    · rw [setBlock_heap, if_pos ⟨rfl, (Array.getElem?_eq_some_iff.1 g2).1⟩]
                                    · have : (len + n) * inf.size + (cap' - (len + n)) * inf.size = cap' * inf.size := by rw [← Nat.add_mul]; congr 1; omega
                                      have h6 : cap' * inf.size = cap * inf.size + en.xtra * inf.size := by rw [hcap', Nat.add_mul]
                                      simp only [hla, hcsz]
                                      rw [← hesz] at g3
                                      omega
                                    · have h7 : (c'.toList.drop (en.base + o)).take (old ++ new).length = old' ++ new' := by
                                        have hold' : old' = (c.toList.drop (en.base + o)).take (len * inf.size) := by
                                          have e1 := hro w rfl
                                          have e2 := run_loadCells (P := P) (off := en.base + o) (n := len * inf.size) g2 (by omega)
                                          have e3 : (Builtin.firstCells inf.size len (.slice (some ⟨en.cb, en.base + o, none⟩) len cap')).run P w = .ok ((c.toList.drop (en.base + o)).take (len * inf.size)).toArray w := e2
                                          rw [e3] at e1
                                          have e4 : ((c.toList.drop (en.base + o)).take (len * inf.size)).toArray = old'.toArray := by injection e1
                                          have e5 := congrArg Array.toList e4
                                          simpa using e5.symm
                                        have e8 := splice_row (c := c) (base := en.base + o) (n := (len + n) * inf.size) (o := len * inf.size) (cs := new') (c' := c') (by omega) (by rw [hln']; omega) (by simpa [Nat.add_assoc] using hc')
                                        rw [hla, e8, hold']
                                        unfold splice
                                        rw [List.take_take, Nat.min_eq_left (by omega), hln']
                                        rw [List.drop_take]
                                        have : (len + n) * inf.size - (len * inf.size + n * inf.size) = 0 := by omega
                                        rw [this]
                                        simp
                                      rw [h7]
                                      exact (vo.append vn).mono (Sub.snoc _ _)
                                  · intro b' o' e' hb1 hb2 hlive hcb
                                    rw [List.getElem?_set] at hb1
                                    by_cases hbb : b = b'
                                    · subst hbb
                                      rw [if_pos rfl, if_pos (lt_of_some hrow)] at hb1
                                      cases hb1; cases hlive
                                    · rw [if_neg hbb] at hb1
                                      exact hbb (hr.inj b b' _ _ en e' hrow hb1 hm hb2 rfl hlive hcb.symm)
                            · exact grow hno _ (hr.killed b) (kill_length σ b)
                          · cases h
                        · cases h
                      · cases h
                    · cases h
                · cases h
              · cases h
            · cases h
        · cases h
      · cases h
    · cases h
  · cases h

end Go.Lk
