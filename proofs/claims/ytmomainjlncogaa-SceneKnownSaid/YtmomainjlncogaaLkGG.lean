/- The region whose order is open: the end. -/
import Derived.Test.YtmomainjlncogaaLkFF
namespace Go.Lk
set_option linter.unusedSimpArgs false
set_option linter.unusedVariables false

section
variable {C : Cfg} {ops : Array Oper} {fs : Nat → List Value} {ss : Nat → AHeap} {vs : Nat → Value} {wd : Nat → Bool} {st : Nat → Bool} {B : Nat → Prop}

theorem aMem_mono {P : Program} {fr : List Value} {σ σ' : AHeap} {o : Op} {v : Value} (h : aMem P fr σ o = some (v, σ')) : σ.length ≤ σ'.length := by
  have hput : ∀ {b o : Nat} {cs : List Value} {σ1 : AHeap}, aPut σ b o cs = some σ1 → σ.length ≤ σ1.length := by
    intro b o cs σ1 h
    unfold aPut at h
    split at h
    · cases h; exact Nat.le_refl _
    · split at h
      · split at h
        · cases h; simp
        · cases h
      · cases h
  unfold aMem at h
  split at h
  · split at h
    · split at h <;> cases h; exact Nat.le_refl _
    · cases h
  · split at h
    · split at h
      · rename_i h3
        cases h
        unfold aStore at h3
        split at h3
        · split at h3
          · split at h3
            · split at h3
              · cases h3; simp
              · cases h3
            · cases h3
          · cases h3
        · cases h3
      · cases h
    · cases h
  · split at h <;> cases h; simp [newP]
  · split at h <;> cases h; simp [newP]
  · split at h
    · split at h <;> cases h; exact Nat.le_refl _
    · cases h
  · split at h
    · unfold aBuildSlice at h
      split at h
      · split at h
        · split at h
          · split at h <;> cases h; simp
          · cases h
        · cases h
      · cases h
    · cases h
  · split at h
    · unfold aMake at h
      split at h
      · split at h
        · split at h
          · split at h
            · split at h <;> cases h; simp
            · cases h
          · cases h
        · cases h
      · cases h
    · cases h
  · split at h
    · unfold aRange at h
      split at h <;> cases h; simp
    · cases h
  · split at h
    · unfold aNext at h
      split at h
      · split at h
        · split at h <;> cases h <;> simp
        · cases h
      · cases h
    · cases h
  · split at h
    · unfold aAppend at h
      split at h
      · split at h
        · split at h
          · rename_i inf _
            cases hd2 : isIntD _ <;> rw [hd2] at h <;> simp only [cond_true, cond_false] at h
            · split at h
              · split at h
                · split at h
                  · split at h
                    · rename_i h3; cases h; exact hput h3
                    · cases h
                  · cases h
                  · split at h <;> cases h; exact Nat.le_refl _
                · split at h
                  · split at h
                    · split at h
                      · split at h
                        · cases h
                        · split at h
                          · cases h; simp
                          · split at h
                            · split at h
                              · split at h <;> cases h; simp [kill_length]
                              · cases h
                            · cases h
                          · cases h
                      · cases h
                    · cases h
                  · cases h
              · cases h
            · cases h
          · cases h
        · cases h
      · cases h
    · cases h
  · split at h
    · unfold aCopy at h
      split at h
      · split at h
        · split at h
          · split at h
            · split at h
              · split at h
                · rename_i h3; cases h; exact hput h3
                · cases h
              · cases h
              · split at h <;> cases h; exact Nat.le_refl _
            · cases h
          · cases h
        · cases h
      · cases h
    · cases h
  · cases h

theorem aOp_mono (hC : C.Ok) {fr : List Value} {σ σ' : AHeap} {o : Op} {v : Value} (h : aOp C fr σ o = some (v, σ')) : σ.length ≤ σ'.length := by
  unfold aOp at h
  split at h
  · unfold aCall at h
    split at h
    · rename_i g first captured vs h1 h2
      cases hp : C.p g <;> rw [hp] at h <;> simp only [cond_true, cond_false] at h
      · exact hC.mono _ _ _ _ _ h
      · split at h
        · cases h; exact Nat.le_refl _
        · cases h
    · cases h
  · rename_i hno
    cases hm : isMem o <;> rw [hm] at h <;> simp only [cond_true, cond_false] at h
    · split at h
      · cases h; exact Nat.le_refl _
      · cases h
    · exact aMem_mono h

theorem Trace.mono (hC : C.Ok) (ht : Trace C ops fs ss vs wd) : ∀ i, i ≤ ops.size → (ss 0).length ≤ (ss i).length
  | 0, _ => Nat.le_refl _
  | i + 1, h => by
    have ho : ops[i]? = some ops[i] := Array.getElem?_eq_getElem (by omega)
    refine Nat.le_trans (ht.mono hC i (by omega)) ?_
    cases hw : wd i
    · rw [(ht.no i _ ho hw).2]; exact Nat.le_refl _
    · exact aOp_mono hC (ht.yes i _ ho hw)

theorem HS.add (hC : C.Ok) {p : Nat → Bool} {s : Nat} {H : AHeap} (h : HS C ops ss wd p s H) {j : Nat} (h2 : kd C ops wd j ≠ 2) (h3 : kd C ops wd j ≠ 3) : HS C ops ss wd (addP p j) s H := by
  have hp : ∀ i, kd C ops wd i = 2 ∨ kd C ops wd i = 3 → addP p j i = p i := fun i hi => by
    unfold addP
    rw [if_neg]
    rintro rfl
    rcases hi with h | h
    · exact h2 h
    · exact h3 h
  exact ⟨h.le, h.stop.imp id (fun ⟨a, b⟩ => ⟨a, by rw [hp _ (.inl a)]; exact b⟩), fun i hi hk => by rw [hp i (.inl hk)]; exact h.done i hi hk, h.len,
    fun i hi hk hpi => h.hole i hi hk (by rw [← hp i (.inr hk)]; exact hpi), fun b hb => h.same b (fun i hi hk hpi => hb i hi hk (by rw [hp i (.inr hk)]; exact hpi))⟩

theorem addP_hole {p : Nat → Bool} {j : Nat} {s : Nat} {μ : List (Option Ent)} (h : ∀ i, i < s → kd C ops wd i = 3 → p i = false → ∀ e, μ[(ss i).length]? ≠ some (some e)) :
    ∀ i, i < s → kd C ops wd i = 3 → addP p j i = false → ∀ e, μ[(ss i).length]? ≠ some (some e) := fun i hi hk hpi => by
  refine h i hi hk ?_
  unfold addP at hpi
  split at hpi
  · cases hpi
  · exact hpi

theorem Ext.hole {μ μ' : List (Option Ent)} (h : Ext μ μ') {b : Nat} (hb : b < μ.length) (hn : ∀ e, μ[b]? ≠ some (some e)) : ∀ e, μ'[b]? ≠ some (some e) := fun e he => hn e (by rw [← h b hb]; exact he)

/-- A load that stands in no order with the changes: of a block that is there from the first on, and stays. -/
def Steady (C : Cfg) (ops : Array Oper) (fs : Nat → List Value) (ss : Nat → AHeap) (st : Nat → Bool) : Prop :=
  ∀ (j : Nat) (oj : Oper) (b o : Nat) (t : TypeId) (x : Operand), ops[j]? = some oj → st j = true → oj.op = .load t x → aev (fs j) x = some (.pointer (some ⟨b, o, none⟩)) →
    b < (ss 0).length ∧ ∀ s, s ≤ ops.size → (∀ m, m < s → Anc ops j m → (ss (m + 1))[b]? = (ss m)[b]?) → (ss s)[b]? = (ss j)[b]?

/-- One more operation. -/
theorem draw_step (hC : C.Ok) (ht : Trace C ops fs ss vs wd) (hsd : Steady C ops fs ss st) (hd : DrawOk C ops st) {p : Nat → Bool} (hc : closedA ops p) {j : Nat} {oj : Oper} (hj : ops[j]? = some oj) (hpj : p j = false)
    (hanc : ∀ i, Anc ops i j → p i = true) {μ : List (Option Ent)} {a : Act} {w : World} (hI : Inv C ops fs ss vs wd B p μ a.tmps w) {n0 : Nat} (hn0 : ∀ i, i ≤ ops.size → n0 ≤ (ss i).length) {K : Act → World → Prop} {Q : Exit → Act → World → Prop}
    (hK : ∀ a' w' μ', Inv C ops fs ss vs wd B (addP p j) μ' a'.tmps w' → a'.defers = a.defers → Sub μ μ' → (∀ b, b < n0 → μ'[b]? = μ[b]?) → Blw B w w' → K a' w') : wpOp C.P ops Q j K a w := by
  have hjl : j < ops.size := (Array.getElem?_eq_some_iff.1 hj).1
  have hput : ∀ (a : Act) (d : Option Tmp) (v : Value), (a.put d v).defers = a.defers := by intro a d v; cases d <;> rfl
  obtain ⟨⟨s, H, hr, hs, hh⟩, hf⟩ := hI
  have hwa := wanted_agrees ht hd hc hj hpj hanc
  have hsle := hs.le
  have hμl : μ.length = (ss s).length := by rw [hr.len, hs.len]
  have hn0' : n0 ≤ μ.length := by
    rw [hμl]
    exact hn0 s hsle
  unfold wpOp
  simp only [hj]
  rw [wanted_eq hf hwa]
  cases hw : wd j
  · -- it is passed over
    simp only [Bool.false_eq_true, if_false]
    have hk0 : kd C ops wd j = 0 := by simp [kd, hj, hw]
    refine hK _ _ μ ⟨⟨s, H, hr, hs.add hC (by omega) (by omega), addP_hole hh⟩, ?_⟩ (hput _ _ _) (Sub.refl _) (fun _ _ => rfl) (Blw.refl _ _)
    rw [fr_next ht hd hc hj hpj, (ht.no j oj hj hw).1]
    exact hf.put VR.undef _
  · simp only [if_true]
    left
    have hk := kd_of (C := C) hj hw
    have hyes := ht.yes j oj hj hw
    have hop := fun τ => op_agrees ht hd hc hj hpj hanc τ
    have finish : ∀ {v' : Value} {w' : World} {μ' : List (Option Ent)}, VR C.ex μ' (vs j) v' → Sub μ μ' → (∀ b, b < n0 → μ'[b]? = μ[b]?) → Blw B w w' →
        (∃ s' H', HR C.ex B μ' H' w' ∧ HS C ops ss wd (addP p j) s' H' ∧ ∀ i, i < s' → kd C ops wd i = 3 → addP p j i = false → ∀ e, μ'[(ss i).length]? ≠ some (some e)) → K (a.put oj.dst v') w' := by
      intro v' w' μ' h1 h2 h2' h3 h4
      refine hK _ _ μ' ⟨h4, ?_⟩ (hput _ _ _) h2 h2' h3
      rw [fr_next ht hd hc hj hpj]
      exact (hf.mono h2).put h1 _
    have lenlt : ∀ i, i < s → kd C ops wd i = 3 → p i = false → (ss i).length < μ.length := fun i hi hk3 hpi => by
      obtain ⟨_, _, _, h⟩ := hs.lt hC ht hd hc hk3 hpi hi
      rw [hμl]; exact h
    -- where the heap stays
    have same : kd C ops wd j ≠ 2 → kd C ops wd j ≠ 3 → aOp C (fsF vs p 0 ops.toList (fs 0)) H oj.op = some (vs j, H) → oj.wp C.P a w K Q := by
      intro h2 h3 h
      refine aOp_sound hC h hf hr ?_
      intro v' w' μ' q1 q2 q3 q4
      refine finish q1 q3.sub (fun b hb => q3 b (by omega)) q4 ⟨s, H, q2, hs.add hC h2 h3, addP_hole fun i hi hk3 hpi => q3.hole (lenlt i hi hk3 hpi) (hh i hi hk3 hpi)⟩
    -- no change between the operation and the stop, if it must stand in order with all changes
    have nochange : cls C oj.op ≠ 0 → st j = false → ∀ m, j < m → m < s → kd C ops wd m ≠ 2 := by
      intro hc0 hsj m hm hms h2
      obtain ⟨om, hom, _, hkm⟩ := kd_pos (C := C) (ops := ops) (wd := wd) (i := m) (by omega)
      rcases hd.two m j om oj hom hj (by omega) (by omega) hc0 hsj with ha | ha
      · have := ha.lt hd; omega
      · have := hc _ _ ha (hs.done m hms h2)
        rw [hpj] at this; cases this
    rcases cls_le C oj.op with h0 | h1 | h2 | h3 | h4
    · -- pure
      obtain ⟨_, hall⟩ := cls0 h0 hyes
      exact same (by omega) (by omega) (by rw [hop, hall])
    · -- it loads
      obtain ⟨_, t, x, ad, ho, hx, hld⟩ := cls1 h1 hyes
      have hjs' : st j = false → j < s := by
        intro hsj
        have hjs := hs.before hd hj hw hpj hanc (by omega) hsj
        rcases Nat.lt_or_eq_of_le hjs with h | h
        · exact h
        · rcases hs.stop with h' | ⟨h', _⟩
          · omega
          · rw [← h, hk, h1] at h'; cases h'
      refine same (by omega) (by omega) ?_
      have hx' : aev (fsF vs p 0 ops.toList (fs 0)) x = some ad := by
        rw [← hx]
        refine aev_congr fun t' e => ?_
        rw [List.getD_eq_getElem?_getD, List.getD_eq_getElem?_getD, fr_agrees ht hd hc hj hpj hanc (t := t') ?_]
        unfold looks
        rw [ho]
        exact List.mem_append_left _ (List.mem_filterMap.2 ⟨.tmp t', by simp [Op.operands, e], rfl⟩)
      have hva := aev_sound hf hx'
      have hload : aLoad C.P H t ad = some (vs j) := by
        unfold aLoad at hld ⊢
        split at hld
        · rename_i b o
          have hHb : H[b]? = (ss j)[b]? := by
            cases hsj : st j with
            | true =>
              obtain ⟨q1, q2⟩ := hsd j oj b o t x hj hsj ho hx
              have q3 : ∀ m, m < s → Anc ops j m → (ss (m + 1))[b]? = (ss m)[b]? := by
                intro m hm ha
                have k2 : kd C ops wd m ≠ 2 := fun k2 => by
                  have := hc _ _ ha (hs.done m hm k2); rw [hpj] at this; cases this
                by_cases k3 : kd C ops wd m = 3
                · obtain ⟨_, row, _, hrow⟩ := ht.made k3
                  have := ht.mono hC m (by omega)
                  rw [hrow, List.getElem?_append_left (by omega)]
                · rw [ht.still hC (by omega) k2 k3]
              rw [← q2 s hsle q3]
              refine hs.same b (fun i hi hk3 hpi hlen => ?_)
              have := ht.mono hC i (by omega)
              omega
            | false =>
            have hjs' := hjs' hsj
            have hblt : b < (ss j).length := by
              rcases Nat.lt_or_ge b (ss j).length with h | h
              · exact h
              · rw [List.getElem?_eq_none h] at hld; cases hld
            obtain ⟨ext, he, _⟩ := ht.grow hC (a := j) (s := s) (by omega) hsle (fun m h1' h2' => by
              rcases Nat.lt_or_eq_of_le h1' with h | h
              · exact nochange (by omega) hsj m h h2'
              · rw [← h, hk, h1]; decide)
            have hss : (ss s)[b]? = (ss j)[b]? := by rw [he, List.getElem?_append_left hblt]
            rw [← hss]
            refine hs.same b (fun i hi hk3 hpi hlen => ?_)
            generalize a.eval x = y at hva
            cases hva with
            | ptr hm => exact hh i hi hk3 hpi _ (by rw [hlen]; exact hm)
          simp only [hHb]
          exact hld
        · cases hld
      rw [ho]
      simp only [aOp, isMem, aMem, cond_true, hx', hload]
    · -- it changes the heap
      have hjs := hs.before hd hj hw hpj hanc (by omega) (hd.no hj (by omega))
      have hjs' : s = j := by
        rcases Nat.lt_or_eq_of_le hjs with h | h
        · have := hs.done j h (by rw [hk, h2])
          rw [hpj] at this; cases this
        · exact h.symm
      subst hjs'
      have hall3 : ∀ i, i < s → kd C ops wd i = 3 → p i = true := by
        intro i hi hk3
        obtain ⟨oi, hoi, _, hki⟩ := kd_pos (C := C) (ops := ops) (wd := wd) (i := i) (by omega)
        rcases hd.two s i oj oi hj hoi (by omega) h2 (by omega) (hd.no hoi (by omega)) with ha | ha
        · have := ha.lt hd; omega
        · exact hanc _ ha
      have hH : H = ss s := by
        apply List.ext_getElem?
        intro b
        exact hs.same b (fun i hi hk3 hpi => by rw [hall3 i hi hk3] at hpi; cases hpi)
      subst hH
      refine aOp_sound hC (o := oj) (v := vs s) (σ' := ss (s + 1)) (by rw [hop]; exact hyes) hf hr ?_
      intro v' w' μ' q1 q2 q3 q4
      -- the next stop
      obtain ⟨s', hs1, hs2, hs3, hs4⟩ : ∃ s', s + 1 ≤ s' ∧ s' ≤ ops.size ∧ (∀ i, s + 1 ≤ i → i < s' → kd C ops wd i ≠ 2) ∧ (s' = ops.size ∨ kd C ops wd s' = 2) := by
        have key : ∀ d, ∃ s', s + 1 ≤ s' ∧ s' ≤ s + 1 + d ∧ (∀ i, s + 1 ≤ i → i < s' → kd C ops wd i ≠ 2) ∧ (s' = s + 1 + d ∨ kd C ops wd s' = 2) := by
          intro d
          induction d with
          | zero => exact ⟨s + 1, by omega, by omega, fun i h1 h2 => by omega, .inl rfl⟩
          | succ d ih =>
            obtain ⟨s', g1, g2, g3, g4⟩ := ih
            rcases g4 with g4 | g4
            · by_cases h : kd C ops wd s' = 2
              · exact ⟨s', g1, by omega, g3, .inr h⟩
              · exact ⟨s' + 1, by omega, by omega, fun i h1 h2 => by
                  rcases Nat.lt_or_eq_of_le (Nat.le_of_lt_succ h2) with h' | h'
                  · exact g3 i h1 h'
                  · rw [h']; exact h, .inl (by omega)⟩
            · exact ⟨s', g1, by omega, g3, .inr g4⟩
        obtain ⟨s', g1, g2, g3, g4⟩ := key (ops.size - (s + 1))
        exact ⟨s', g1, by omega, g3, by rcases g4 with h | h; · left; omega
                                        · exact .inr h⟩
      obtain ⟨ext, he, hpos⟩ := ht.grow hC (a := s + 1) (s := s') hs1 hs2 hs3
      have hafter : ∀ i, s < i → kd C ops wd i = 2 ∨ kd C ops wd i = 3 → p i = false := by
        intro i hi hki
        obtain ⟨oi, hoi, _, hki'⟩ := kd_pos (C := C) (ops := ops) (wd := wd) (i := i) (by omega)
        cases hp : p i
        · rfl
        · rcases hd.two s i oj oi hj hoi (by omega) h2 (by omega) (hd.no hoi (by omega)) with ha | ha
          · have := hc _ _ ha hp; rw [hpj] at this; cases this
          · have := ha.lt hd; omega
      have hadd : ∀ i, s < i → addP p s i = p i := fun i hi => by unfold addP; rw [if_neg (by omega)]
      have hlen' : (ss s').length = (ss (s + 1)).length + ext.length := by rw [he]; simp
      have hμ' : μ'.length = (ss (s + 1)).length := q2.len
      have hge : ∀ i, s + 1 ≤ i → i ≤ s' → (ss (s + 1)).length ≤ (ss i).length := by
        intro i h1 h2
        obtain ⟨e, he', _⟩ := ht.grow hC (a := s + 1) (s := i) h1 (by omega) (fun m g1 g2 => hs3 m g1 (by omega))
        rw [he']; simp
      refine finish (q1.mono (Sub.holes _ _)) (q3.sub.trans (Sub.holes _ ext.length)) (fun b hb => ?_) q4 ⟨s', ss (s + 1) ++ List.replicate ext.length .dead, q2.dead _, ?_, ?_⟩
      · have hlt : b < μ.length := by omega
        have h3 := q3.len
        rw [List.getElem?_append_left (by omega)]
        exact q3 b hlt
      · refine ⟨hs2, ?_, ?_, by simp [hlen'], ?_, ?_⟩
        · rcases hs4 with h | h
          · exact .inl h
          · exact .inr ⟨h, by rw [hadd s' (by omega)]; exact hafter s' (by omega) (.inl h)⟩
        · intro i hi hk2
          by_cases his : i = s
          · subst his; simp [addP]
          · rcases Nat.lt_or_ge i s with h | h
            · have := hs.done i h hk2
              simp [addP, this]
            · exact absurd hk2 (hs3 i (by omega) hi)
        · intro i hi hk3 hpi
          have hsi : s < i := by
            rcases Nat.lt_or_ge s i with h | h
            · exact h
            · exfalso
              rcases Nat.lt_or_eq_of_le h with h' | h'
              · have := hall3 i h' hk3
                simp [addP, this] at hpi
              · subst h'; rw [hk, h2] at hk3; cases hk3
          have h1 := hge i (by omega) (by omega)
          have h2' : (ss i).length < (ss s').length := by
            obtain ⟨m, row, _, hrow⟩ := ht.made hk3
            obtain ⟨e, he', _⟩ := ht.grow hC (a := i + 1) (s := s') (by omega) hs2 (fun m g1 g2 => hs3 m (by omega) g2)
            rw [he', hrow]; simp
          rw [List.getElem?_append_right h1, List.getElem?_replicate, if_pos (by omega)]
        · intro b hb
          rcases Nat.lt_or_ge b (ss (s + 1)).length with h | h
          · rw [List.getElem?_append_left h, he, List.getElem?_append_left h]
          · rcases Nat.lt_or_ge b (ss s').length with h' | h'
            · obtain ⟨i, g1, g2, g3, g4⟩ := hpos b h h'
              exact absurd g4 (hb i g2 g3 (by rw [hadd i (by omega)]; exact hafter i (by omega) (.inr g3)))
            · rw [List.getElem?_eq_none h', List.getElem?_eq_none (by simp; omega)]
      · intro i hi hk3 hpi e
        have hsi : s < i := by
          rcases Nat.lt_or_ge s i with h | h
          · exact h
          · exfalso
            rcases Nat.lt_or_eq_of_le h with h' | h'
            · have := hall3 i h' hk3
              simp [addP, this] at hpi
            · subst h'; rw [hk, h2] at hk3; cases hk3
        have h1 := hge i (by omega) (by omega)
        rw [List.getElem?_append_right (by omega), List.getElem?_replicate]
        split <;> simp
    · -- it makes a block
      have hjs := hs.before hd hj hw hpj hanc (by omega) (hd.no hj (by omega))
      have hjs' : j < s := by
        rcases Nat.lt_or_eq_of_le hjs with h | h
        · exact h
        · rcases hs.stop with h' | ⟨h', _⟩
          · omega
          · rw [← h, hk, h3] at h'; cases h'
      have hk3 : kd C ops wd j = 3 := by rw [hk, h3]
      obtain ⟨row, hrow, hrow', hlt⟩ := hs.lt hC ht hd hc hk3 hpj hjs'
      obtain ⟨m1, row1, e1, e2, hall⟩ := cls3 h3 hyes
      obtain ⟨m2, row2, f1, f2, hA⟩ := cls3_okA (C := C) (o := oj) h3 (by rw [hop]; exact hall H) hf w
      have hm : m2 = m1 := Mk.inj f1.symm
      subst hm
      have hrr : row2 = row := by
        have g1 : row1 = row := by rw [e2] at hrow; simpa using hrow
        have g2 : row1 = row2 := by simpa using f2
        rw [← g2, g1]
      subst hrr
      obtain ⟨cs, cs', elem, rfl, hv, hrun⟩ := hA
      have hhole := hh j hjs' hk3 hpj
      have hdead := hs.hole j hjs' hk3 hpj
      have hfill := hr.fill (elem := elem) hdead hhole hv
      have hcl : (ss j).length < μ.length := lenlt j hjs' hk3 hpj
      have hget : (μ.set (ss j).length (some ⟨w.heap.size, 0, cs.length, 0, 0⟩))[(ss j).length]? = some (some ⟨w.heap.size, 0, cs.length, 0, 0⟩) := by
        rw [List.getElem?_set, if_pos rfl, if_pos hcl]
      unfold Oper.wp
      rw [hrun]
      refine finish (μ' := μ.set (ss j).length (some ⟨w.heap.size, 0, cs.length, 0, 0⟩)) ?_ (Sub.fill hhole) (fun b hb => ?_) (Blw.push' rfl hr.hB) ⟨s, H.set (ss j).length (.row cs true none), hfill, ?_, ?_⟩
      · rw [e1]
        cases m2 with
        | p =>
          have := VR.ptr (ex := C.ex) (o := 0) hget
          exact this
        | s sz len cap =>
          have := VR.slice (ex := C.ex) (o := 0) (sz := sz) (len := len) (cap := cap) hget (.inl rfl)
          exact this
      · have := hn0 j (by omega)
        rw [List.getElem?_set, if_neg (by omega)]
      · have hne : ∀ i, i < s → kd C ops wd i = 3 → addP p j i = false → i ≠ j ∧ p i = false ∧ (ss i).length ≠ (ss j).length := by
          intro i hi hki hpi
          unfold addP at hpi
          split at hpi
          · cases hpi
          · rename_i hij
            refine ⟨hij, hpi, ?_⟩
            rcases Nat.lt_or_ge i j with h | h
            · have := hs.apart hC ht hd hc hki hk3 hpi h hjs'; omega
            · have := hs.apart hC ht hd hc hk3 hki hpj (by omega) hi; omega
        have hstop : s = ops.size ∨ (kd C ops wd s = 2 ∧ addP p j s = false) := by
          rcases hs.stop with h | ⟨g1, g2⟩
          · exact .inl h
          · refine .inr ⟨g1, ?_⟩
            unfold addP; rw [if_neg (by omega)]; exact g2
        refine ⟨hs.le, hstop, fun i hi hki => ?_, by simp [hs.len], fun i hi hki hpi => ?_, fun b hb => ?_⟩
        · have := hs.done i hi hki; simp [addP, this]
        · obtain ⟨_, g2, g3⟩ := hne i hi hki hpi
          rw [List.getElem?_set, if_neg (fun e => g3 e.symm)]
          exact hs.hole i hi hki g2
        · rw [List.getElem?_set]
          by_cases hbj : (ss j).length = b
          · rw [if_pos hbj, if_pos (by rw [hs.len]; omega), ← hbj, hrow']
          · rw [if_neg hbj]
            refine hs.same b (fun i hi hki hpi => ?_)
            by_cases hij : i = j
            · subst hij; exact hbj
            · exact hb i hi hki (by unfold addP; rw [if_neg hij]; exact hpi)
      · intro i hi hki hpi e
        unfold addP at hpi
        split at hpi
        · cases hpi
        · rename_i hij
          have hne : (ss j).length ≠ (ss i).length := by
            rcases Nat.lt_or_ge i j with h | h
            · have := hs.apart hC ht hd hc hki hk3 hpi h hjs'; omega
            · have := hs.apart hC ht hd hc hk3 hki hpj (by omega) hi; omega
          rw [List.getElem?_set, if_neg hne]
          exact hh i hi hki hpi e
    · -- a call that reads
      have hjs := hs.before hd hj hw hpj hanc (by omega) (hd.no hj (by omega))
      have hjs' : j < s := by
        rcases Nat.lt_or_eq_of_le hjs with h | h
        · exact h
        · rcases hs.stop with h' | ⟨h', _⟩
          · omega
          · rw [← h, hk, h4] at h'; cases h'
      have hst := cls4 hC h4 hyes
      have h3all : ∀ i, kd C ops wd i = 3 → p i = true ∧ i < j := by
        intro i hki
        obtain ⟨oi, hoi, _, hki'⟩ := kd_pos (C := C) (ops := ops) (wd := wd) (i := i) (by omega)
        have ha := hd.four i j oi oj hoi hj (by omega) h4
        exact ⟨hanc _ ha, ha.lt hd⟩
      obtain ⟨ext, he, hpos⟩ := ht.grow hC (a := j) (s := s) (by omega) hsle (fun m h1' h2' => by
        rcases Nat.lt_or_eq_of_le h1' with h | h
        · exact nochange (by omega) (hd.no hj (by omega)) m h h2'
        · rw [← h, hk, h4]; decide)
      have hext : ext = [] := by
        cases ext with
        | nil => rfl
        | cons x xs =>
          obtain ⟨i, g1, g2, g3, g4⟩ := hpos (ss j).length (Nat.le_refl _) (by rw [he]; simp)
          have := (h3all i g3).2
          omega
      have hH : H = ss j := by
        apply List.ext_getElem?
        intro b
        rw [hs.same b (fun i hi hk3 hpi => by rw [(h3all i hk3).1] at hpi; cases hpi), he, hext, List.append_nil]
      refine same (by omega) (by omega) ?_
      rw [hop, hH, hyes, hst]

/-- WHATEVER ORDER IS TAKEN. -/
theorem draw_all (hC : C.Ok) (ht : Trace C ops fs ss vs wd) (hsd : Steady C ops fs ss st) (hd : DrawOk C ops st) {Q : Exit → Act → World → Prop} {n0 : Nat} (hn0 : ∀ i, i ≤ ops.size → n0 ≤ (ss i).length) {μ0 : List (Option Ent)} {w0 : World} {defers : List Deferred}
    (hQ : ∀ a' w' μ', FrR C.ex μ' (fs ops.size) a'.tmps → HR C.ex B μ' (ss ops.size) w' → a'.defers = defers → Sub μ0 μ' → (∀ b, b < n0 → μ'[b]? = μ0[b]?) → Blw B w0 w' → Q .normal a' w') :
    ∀ (fuel : Nat) (listed : Array Bool) (a : Act) (w : World) (μ : List (Option Ent)), listed.size = ops.size → closedA ops (fun i => listed.getD i false) → ((List.range ops.size).countP (fun i => !listed.getD i false)) ≤ fuel →
      Inv C ops fs ss vs wd B (fun i => listed.getD i false) μ a.tmps w → a.defers = defers → Sub μ0 μ → (∀ b, b < n0 → μ[b]? = μ0[b]?) → Blw B w0 w → wpAny C.P .any ops Q fuel listed a w := by
  have ready : ∀ (listed : Array Bool), listed.size = ops.size → ∀ i, i ∈ Region.ready .any ops listed ↔ (i < ops.size ∧ listed.getD i false = false ∧ ∀ o e, ops[i]? = some o → e ∈ o.after → Region.binds .any e = true → listed.getD e.on false = true) := by
    intro listed hsz i
    unfold Region.ready
    simp only [List.mem_filter, List.mem_range, Bool.and_eq_true]
    constructor
    · rintro ⟨h1, h2, h3⟩
      have ho : ops[i]? = some ops[i] := Array.getElem?_eq_getElem h1
      refine ⟨h1, ?_, fun o e ho' he hb => ?_⟩
      · have : i < listed.size := by omega
        simp [this] at h2 ⊢
        exact h2
      · rw [ho'] at h3
        simp only [Option.map_some, Option.getD_some] at h3
        rw [Array.all_eq_true'] at h3
        have := h3 e he
        simpa [hb] using this
    · rintro ⟨h1, h2, h3⟩
      have ho : ops[i]? = some ops[i] := Array.getElem?_eq_getElem h1
      refine ⟨h1, ?_, ?_⟩
      · have : i < listed.size := by omega
        simp [this] at h2 ⊢
        exact h2
      · rw [ho]
        simp only [Option.map_some, Option.getD_some]
        rw [Array.all_eq_true']
        intro e he
        cases hb : Region.binds .any e
        · rfl
        · simp [h3 _ e ho he hb]
  have ancs : ∀ (listed : Array Bool), listed.size = ops.size → closedA ops (fun i => listed.getD i false) → ∀ i, i ∈ Region.ready .any ops listed → ∀ k, Anc ops k i → listed.getD k false = true := by
    intro listed hsz hcl i hi k ha
    obtain ⟨_, _, h3⟩ := (ready listed hsz i).1 hi
    cases ha with
    | one ho he hb hon => rw [← hon]; exact h3 _ _ ho he hb
    | step ho he hb h => exact hcl _ _ h (h3 _ _ ho he hb)
  have finish : ∀ (listed : Array Bool) (a : Act) (w : World) (μ : List (Option Ent)), listed.size = ops.size → (∀ i, i < ops.size → listed.getD i false = true) → Inv C ops fs ss vs wd B (fun i => listed.getD i false) μ a.tmps w →
      a.defers = defers → Sub μ0 μ → (∀ b, b < n0 → μ[b]? = μ0[b]?) → Blw B w0 w → Q .normal a w := by
    intro listed a w μ hsz hall hI h1 h2 h2' h3
    obtain ⟨⟨s, H, hr, hs, hh⟩, hf⟩ := hI
    have hsn : s = ops.size := by
      rcases hs.stop with h | ⟨h, h'⟩
      · exact h
      · obtain ⟨o, ho, _, _⟩ := kd_pos (C := C) (ops := ops) (wd := wd) (i := s) (by omega)
        have := hall s (Array.getElem?_eq_some_iff.1 ho).1
        rw [this] at h'; cases h'
    subst hsn
    have hH : H = ss ops.size := by
      apply List.ext_getElem?
      intro b
      exact hs.same b (fun i hi hk3 hpi => by rw [hall i hi] at hpi; cases hpi)
    subst hH
    have hF : fsF vs (fun i => listed.getD i false) 0 ops.toList (fs 0) = fs ops.size := by
      rw [← fsF_prefix ht ops.size ops.toList 0 (fun i => by simp) (Nat.zero_le _) (by simp)]
      apply List.ext_getElem?
      intro t
      refine fsF_congr vs _ _ t ops.toList 0 _ _ (fun i o hi hd' => ?_) rfl rfl
      have : i < ops.size := by have := lt_of_some hi; simpa using this
      rw [Nat.zero_add, hall i this]
      simp [this]
    rw [hF] at hf
    exact hQ a w μ hf hr h1 h2 h2' h3
  have stuck : ∀ (listed : Array Bool), listed.size = ops.size → Region.ready .any ops listed = [] → ∀ i, i < ops.size → listed.getD i false = true := by
    intro listed hsz hr i
    induction i using Nat.strongRecOn with
    | _ i ih =>
      intro hi
      cases hl : listed.getD i false
      · exfalso
        have : i ∈ Region.ready .any ops listed := (ready listed hsz i).2 ⟨hi, hl, fun o e ho he hb => ih e.on (hd.low i o e ho he hb) (Nat.lt_trans (hd.low i o e ho he hb) hi)⟩
        rw [hr] at this; cases this
      · rfl
  intro fuel
  induction fuel with
  | zero =>
    intro listed a w μ hsz hcl hcnt hI h1 h2 h2' h3
    have hall : ∀ i, i < ops.size → listed.getD i false = true := by
      intro i hi
      have h0 : (List.range ops.size).countP (fun i => !listed.getD i false) = 0 := by omega
      rw [List.countP_eq_zero] at h0
      have := h0 i (by simpa using hi)
      simpa using this
    refine ⟨?_, finish listed a w μ hsz hall hI h1 h2 h2' h3⟩
    rw [List.eq_nil_iff_forall_not_mem]
    intro i hi
    obtain ⟨q1, q2, _⟩ := (ready listed hsz i).1 hi
    rw [hall i q1] at q2; cases q2
  | succ fuel ih =>
    intro listed a w μ hsz hcl hcnt hI h1 h2 h2' h3
    refine ⟨fun hr => finish listed a w μ hsz (stuck listed hsz hr) hI h1 h2 h2' h3, fun i hi => ?_⟩
    obtain ⟨q1, q2, q3⟩ := (ready listed hsz i).1 hi
    have ho : ops[i]? = some ops[i] := Array.getElem?_eq_getElem q1
    have hP : (fun k => (listed.setIfInBounds i true).getD k false) = addP (fun k => listed.getD k false) i := by
      funext k
      unfold addP
      by_cases hk : k = i
      · subst hk; rw [if_pos rfl]; simp [hsz, q1]
      · rw [if_neg hk]
        show (listed.setIfInBounds i true).getD k false = listed.getD k false
        rw [Array.getD_eq_getD_getElem?, Array.getD_eq_getD_getElem?, Array.getElem?_setIfInBounds_ne (fun e => hk e.symm)]
    refine draw_step hC ht hsd hd hcl ho q2 (ancs listed hsz hcl i hi) hI hn0 ?_
    intro a' w' μ' r1 r2 r3 r3' r4
    refine ih _ a' w' μ' (by simpa using hsz) ?_ ?_ (by rw [hP]; exact r1) (r2.trans h1) (h2.trans r3) (fun b hb => (r3' b hb).trans (h2' b hb)) (h3.trans r4)
    · rw [hP]
      intro k m ha hm
      unfold addP at hm ⊢
      by_cases hmi : m = i
      · subst hmi
        show (if k = m then true else listed.getD k false) = true
        rw [ancs listed hsz hcl m hi k ha]; simp
      · rw [if_neg hmi] at hm
        show (if k = i then true else listed.getD k false) = true
        have h' : listed.getD k false = true := hcl k m ha hm
        rw [h']; simp
    · have hlt : (List.range ops.size).countP (fun k => !(listed.setIfInBounds i true).getD k false) < (List.range ops.size).countP (fun k => !listed.getD k false) := by
        have e : (fun k => !(listed.setIfInBounds i true).getD k false) = fun k => !(addP (fun k => listed.getD k false) i k) := by
          funext k; rw [← hP]
        rw [e]
        have hmem : i ∈ List.range ops.size := by simpa using q1
        obtain ⟨l1, l2, hl⟩ := List.append_of_mem hmem
        rw [hl, List.countP_append, List.countP_append, List.countP_cons, List.countP_cons]
        have m1 : ∀ l : List Nat, l.countP (fun k => !(addP (fun k => listed.getD k false) i k)) ≤ l.countP (fun k => !listed.getD k false) := by
          intro l
          apply List.countP_mono_left
          intro k _ hk
          unfold addP at hk
          split at hk
          · cases hk
          · exact hk
        have := m1 l1
        have := m1 l2
        have e1 : (!(addP (fun k => listed.getD k false) i i)) = false := by simp [addP]
        have e2 : (!listed.getD i false) = true := by rw [q2]; rfl
        rw [e1, e2]
        simp only [Bool.false_eq_true, if_false, if_true]
        omega
      omega

end
end Go.Lk
