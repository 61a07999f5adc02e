/- The region whose order is open, with calls that a new block may come ahead of or after. -/
import Derived.Test.YtmomainjlncogaaLkRS
namespace Go.Lk
set_option linter.unusedSimpArgs false
set_option linter.unusedVariables false

structure DrawR (C : Cfg) (ops : Array Oper) (st rl : Nat → Bool) : Prop where
  low : ∀ j o e, ops[j]? = some o → e ∈ o.after → Region.binds .any e = true → e.on < j
  slot : ∀ i j oi oj t, ops[i]? = some oi → ops[j]? = some oj → i ≠ j → oi.dst = some t → (t ∈ looks ops oj ∨ oj.dst = some t) → Anc ops i j ∨ Anc ops j i
  two : ∀ i j oi oj, ops[i]? = some oi → ops[j]? = some oj → i ≠ j → cls C oi.op = 2 → cls C oj.op ≠ 0 → st j = false → Anc ops i j ∨ Anc ops j i ∨ (cls C oj.op = 3 ∧ j < i ∧ rl i = true)
  ld : ∀ j oj, ops[j]? = some oj → st j = true → cls C oj.op = 1
  four : ∀ i j oi oj, ops[i]? = some oi → ops[j]? = some oj → cls C oi.op = 3 → cls C oj.op = 4 → Anc ops i j

theorem Anc.ltR {C : Cfg} {ops : Array Oper} {st rl : Nat → Bool} (h : DrawR C ops st rl) {i j : Nat} (ha : Anc ops i j) : i < j := by
  induction ha with
  | one ho he hb hi => rw [← hi]; exact h.low _ _ _ ho he hb
  | step ho he hb _ ih => exact Nat.lt_trans ih (h.low _ _ _ ho he hb)

theorem DrawR.no {C : Cfg} {ops : Array Oper} {st rl : Nat → Bool} (h : DrawR C ops st rl) {j : Nat} {oj : Oper} (hj : ops[j]? = some oj) (hc : cls C oj.op ≠ 1) : st j = false := by
  cases hs : st j
  · rfl
  · exact absurd (h.ld j oj hj hs) hc

/-- A new block of the region that need not be there yet. -/
def Free (C : Cfg) (ops : Array Oper) (ss : Nat → AHeap) (wd : Nat → Bool) (j b : Nat) : Prop := ∃ i, i < j ∧ kd C ops wd i = 3 ∧ ¬ Anc ops i j ∧ (ss i).length = b
/-- Such calls answer alike whether those blocks are there or not, and leave them alone. -/
def HoleOk (C : Cfg) (ops : Array Oper) (fs : Nat → List Value) (ss : Nat → AHeap) (vs : Nat → Value) (wd rl : Nat → Bool) : Prop :=
  ∀ j oj, ops[j]? = some oj → rl j = true → kd C ops wd j = 2 → ∀ H, H.length = (ss j).length → (∀ b, ¬ Free C ops ss wd j b → H[b]? = (ss j)[b]?) →
    ∃ H', aOp C (fs j) H oj.op = some (vs j, H') ∧ H'.length = (ss (j + 1)).length ∧ (∀ b, ¬ Free C ops ss wd j b → H'[b]? = (ss (j + 1))[b]?) ∧ ∀ b, Free C ops ss wd j b → H'[b]? = H[b]?

section
variable {C : Cfg} {ops : Array Oper} {fs : Nat → List Value} {ss : Nat → AHeap} {vs : Nat → Value} {wd : Nat → Bool} {st rl : Nat → Bool} {B : Nat → Prop}

theorem Trace.mono2 (hC : C.Ok) (ht : Trace C ops fs ss vs wd) (a : Nat) : ∀ d, a + d ≤ ops.size → (ss a).length ≤ (ss (a + d)).length
  | 0, _ => Nat.le_refl _
  | d + 1, h => by
    have ho : ops[a + d]? = some ops[a + d] := Array.getElem?_eq_getElem (by omega)
    refine Nat.le_trans (ht.mono2 hC a d (by omega)) ?_
    rw [← Nat.add_assoc]
    cases hw : wd (a + d)
    · rw [(ht.no (a + d) _ ho hw).2]; exact Nat.le_refl _
    · exact aOp_mono hC (ht.yes (a + d) _ ho hw)

theorem HoleOk.self (ho : HoleOk C ops fs ss vs wd rl) (ht : Trace C ops fs ss vs wd) {j : Nat} {oj : Oper} (hj : ops[j]? = some oj) (hr : rl j = true) (h2 : kd C ops wd j = 2) {b : Nat} (hb : Free C ops ss wd j b) : (ss (j + 1))[b]? = (ss j)[b]? := by
  obtain ⟨H', h1, _, _, h4⟩ := ho j oj hj hr h2 (ss j) rfl (fun _ _ => rfl)
  obtain ⟨o, ho', hw, _⟩ := kd_pos (C := C) (ops := ops) (wd := wd) (i := j) (by omega)
  rw [hj] at ho'; cases ho'
  have := ht.yes j oj hj hw
  rw [h1] at this
  cases this
  exact h4 b hb

theorem HS.apartR (hC : C.Ok) (ht : Trace C ops fs ss vs wd) {p : Nat → Bool} {s : Nat} {H : AHeap} (h : HS C ops ss wd p s H) {i j : Nat}
    (hi3 : kd C ops wd i = 3) (hj3 : kd C ops wd j = 3) (hpi : p i = false) (hij : i < j) (hjs : j < s) : (ss i).length < (ss j).length := by
  have hle := h.le
  obtain ⟨m, row, _, hrow⟩ := ht.made hi3
  have := ht.mono2 hC (i + 1) (j - (i + 1)) (by omega)
  rw [show i + 1 + (j - (i + 1)) = j by omega, hrow] at this
  simp at this
  omega

theorem HS.keepR (hC : C.Ok) (ht : Trace C ops fs ss vs wd) (ho : HoleOk C ops fs ss vs wd rl) (hd : DrawR C ops st rl) {p : Nat → Bool} {s : Nat} {H : AHeap} (h : HS C ops ss wd p s H) (hc : closedA ops p) {i : Nat}
    (hi3 : kd C ops wd i = 3) (hpi : p i = false) {row : AObj} (hrow : ss (i + 1) = ss i ++ [row]) : ∀ d, i + 1 + d ≤ s → (ss (i + 1 + d))[(ss i).length]? = some row ∧ (ss i).length < (ss (i + 1 + d)).length
  | 0, _ => by rw [Nat.add_zero, hrow]; simp
  | d + 1, hs => by
    have hle := h.le
    obtain ⟨ih, il⟩ := h.keepR hC ht ho hd hc hi3 hpi hrow d (by omega)
    have hom : ops[i + 1 + d]? = some ops[i + 1 + d] := Array.getElem?_eq_getElem (by omega)
    rw [← Nat.add_assoc]
    have hstay : kd C ops wd (i + 1 + d) ≠ 2 → kd C ops wd (i + 1 + d) ≠ 3 → (ss (i + 1 + d + 1))[(ss i).length]? = some row ∧ (ss i).length < (ss (i + 1 + d + 1)).length := fun h2 h3 => by
      rw [ht.still hC (by omega) h2 h3]; exact ⟨ih, il⟩
    by_cases h2 : kd C ops wd (i + 1 + d) = 2
    · obtain ⟨oi, hoi, _, hki⟩ := kd_pos (C := C) (ops := ops) (wd := wd) (i := i) (by omega)
      obtain ⟨om, hom', _, hkm⟩ := kd_pos (C := C) (ops := ops) (wd := wd) (i := i + 1 + d) (by omega)
      have hna : ¬ Anc ops i (i + 1 + d) := fun ha => by
        have := hc _ _ ha (h.done _ (by omega) h2)
        rw [hpi] at this; cases this
      rcases hd.two (i + 1 + d) i om oi hom' hoi (by omega) (by omega) (by omega) (hd.no hoi (by omega)) with ha | ha | ⟨_, _, ha⟩
      · have := ha.ltR hd; omega
      · exact absurd ha hna
      · have := ho.self ht hom' ha h2 (b := (ss i).length) ⟨i, by omega, hi3, hna, rfl⟩
        rw [this]
        refine ⟨ih, ?_⟩
        rcases Nat.lt_or_ge (ss i).length (ss (i + 1 + d + 1)).length with g | g
        · exact g
        · rw [List.getElem?_eq_none g, ih] at this; cases this
    · by_cases h3 : kd C ops wd (i + 1 + d) = 3
      · obtain ⟨m, row', _, hrow'⟩ := ht.made h3
        rw [hrow']
        rw [List.getElem?_append_left il]
        exact ⟨ih, by simp; omega⟩
      · exact hstay h2 h3

theorem HS.ltR (hC : C.Ok) (ht : Trace C ops fs ss vs wd) (ho : HoleOk C ops fs ss vs wd rl) (hd : DrawR C ops st rl) {p : Nat → Bool} {s : Nat} {H : AHeap} (h : HS C ops ss wd p s H) (hc : closedA ops p) {i : Nat}
    (hi3 : kd C ops wd i = 3) (hpi : p i = false) (his : i < s) : ∃ row, ss (i + 1) = ss i ++ [row] ∧ (ss s)[(ss i).length]? = some row ∧ (ss i).length < (ss s).length := by
  obtain ⟨m, row, _, hrow⟩ := ht.made hi3
  have := h.keepR hC ht ho hd hc hi3 hpi hrow (s - (i + 1)) (by omega)
  rw [show i + 1 + (s - (i + 1)) = s by omega] at this
  exact ⟨row, hrow, this⟩

theorem HS.beforeR (hd : DrawR C ops st rl) {p : Nat → Bool} {s : Nat} {H : AHeap} (h : HS C ops ss wd p s H) {j : Nat} {oj : Oper} (hj : ops[j]? = some oj) (hwj : wd j = true) (hpj : p j = false)
    (hanc : ∀ i, Anc ops i j → p i = true) (hc0 : cls C oj.op ≠ 0) (hsj : st j = false) : j ≤ s := by
  rcases Nat.lt_or_ge s j with hlt | hge
  · exfalso
    have hjl : j < ops.size := (Array.getElem?_eq_some_iff.1 hj).1
    rcases h.stop with h1 | ⟨h1, h2⟩
    · omega
    · obtain ⟨os, hos, _, hks⟩ := kd_pos (C := C) (ops := ops) (wd := wd) (i := s) (by omega)
      rcases hd.two s j os oj hos hj (by omega) (by omega) hc0 hsj with ha | ha | ⟨_, ha, _⟩
      · have := hanc _ ha; rw [h2] at this; cases this
      · have := ha.ltR hd; omega
      · omega
  · exact hge

/-- The frame is as in the text's order, where the next operation looks. -/
theorem fr_agreesR (ht : Trace C ops fs ss vs wd) (hd : DrawR C ops st rl) {p : Nat → Bool} (hc : closedA ops p) {j : Nat} {oj : Oper} (hj : ops[j]? = some oj) (hpj : p j = false)
    (hanc : ∀ i, Anc ops i j → p i = true) {t : Nat} (hl : t ∈ looks ops oj) : (fsF vs p 0 ops.toList (fs 0))[t]? = (fs j)[t]? := by
  have hjl : j < ops.size := (Array.getElem?_eq_some_iff.1 hj).1
  rw [← fsF_prefix ht j ops.toList 0 (fun i => by simp) (Nat.zero_le _) (by simp; omega)]
  refine fsF_congr vs p _ t ops.toList 0 _ _ (fun i o hi hdst => ?_) rfl rfl
  rw [Nat.zero_add]
  have hi' : ops[i]? = some o := by simpa using hi
  by_cases hij : i = j
  · subst hij; simp [hpj]
  · rcases hd.slot i j o oj t hi' hj hij hdst (.inl hl) with ha | ha
    · have := ha.ltR hd
      rw [hanc i ha]; simp [this]
    · have := ha.ltR hd
      have hpi : p i = false := by
        cases hp : p i
        · rfl
        · have := hc j i ha hp; rw [hpj] at this; cases this
      rw [hpi]; simp; omega

/-- The frame once the next operation is carried out. -/
theorem fr_nextR (ht : Trace C ops fs ss vs wd) (hd : DrawR C ops st rl) {p : Nat → Bool} (hc : closedA ops p) {j : Nat} {oj : Oper} (hj : ops[j]? = some oj) (hpj : p j = false) :
    fsF vs (addP p j) 0 ops.toList (fs 0) = putA (fsF vs p 0 ops.toList (fs 0)) oj.dst (vs j) := by
  have hjl : j < ops.size := (Array.getElem?_eq_some_iff.1 hj).1
  apply List.ext_getElem?
  intro t
  by_cases hdst : oj.dst = some t
  · simp only [hdst, putA]
    rw [List.getElem?_set, if_pos rfl, fsF_length]
    by_cases htl : t < (fs 0).length
    · rw [if_pos htl]
      refine fsF_last vs _ t j ops.toList 0 _ (Nat.zero_le _) (fun o ho => ?_) (by simpa using hjl) (by simp [addP]) (fun i o hi ho hd' => ?_) htl
      · have : ops[j]? = some o := by simpa using ho
        rw [hj] at this; cases this; exact hdst
      · have ho' : ops[i]? = some o := by simpa using ho
        have hne : i ≠ j := by omega
        simp only [addP, if_neg hne]
        cases hp : p i
        · rfl
        · rcases hd.slot i j o oj t ho' hj hne hd' (.inr hdst) with ha | ha
          · have := ha.ltR hd; omega
          · have := hc j i ha hp; rw [hpj] at this; cases this
    · rw [if_neg htl]
      exact List.getElem?_eq_none (by rw [fsF_length]; omega)
  · rw [putA_get_ne hdst]
    refine fsF_congr vs _ p t ops.toList 0 _ _ (fun i o hi hd' => ?_) rfl rfl
    rw [Nat.zero_add]
    have hi' : ops[i]? = some o := by simpa using hi
    have hne : i ≠ j := by rintro rfl; rw [hj] at hi'; cases hi'; exact hdst hd'
    simp [addP, hne]

theorem wanted_agreesR (ht : Trace C ops fs ss vs wd) (hd : DrawR C ops st rl) {p : Nat → Bool} (hc : closedA ops p) {j : Nat} {oj : Oper} (hj : ops[j]? = some oj) (hpj : p j = false)
    (hanc : ∀ i, Anc ops i j → p i = true) : wantedA ops (fsF vs p 0 ops.toList (fs 0)) oj = some (wd j) := by
  rw [← ht.w j oj hj]
  unfold wantedA
  split
  · rfl
  · rename_i g want hg
    cases hgd : (ops[g]?).bind (·.dst) with
    | none => rfl
    | some t =>
      simp only
      rw [fr_agreesR ht hd hc hj hpj hanc (t := t) (by
        unfold looks
        rw [hg]
        simp [hgd])]

theorem op_agreesR (ht : Trace C ops fs ss vs wd) (hd : DrawR C ops st rl) {p : Nat → Bool} (hc : closedA ops p) {j : Nat} {oj : Oper} (hj : ops[j]? = some oj) (hpj : p j = false)
    (hanc : ∀ i, Anc ops i j → p i = true) (τ : AHeap) : aOp C (fsF vs p 0 ops.toList (fs 0)) τ oj.op = aOp C (fs j) τ oj.op := by
  refine aOp_congr fun t ht' => ?_
  have hl : t ∈ looks ops oj := by
    unfold looks
    refine List.mem_append_left _ (List.mem_filterMap.2 ⟨.tmp t, ht', rfl⟩)
  rw [List.getD_eq_getElem?_getD, List.getD_eq_getElem?_getD, fr_agreesR ht hd hc hj hpj hanc hl]

/-- One more operation. -/
theorem draw_stepR (hC : C.Ok) (ht : Trace C ops fs ss vs wd) (hsd : Steady C ops fs ss st) (hO : HoleOk C ops fs ss vs wd rl) (hd : DrawR C ops st rl) {p : Nat → Bool} (hc : closedA ops p) {j : Nat} {oj : Oper} (hj : ops[j]? = some oj) (hpj : p j = false)
    (hanc : ∀ i, Anc ops i j → p i = true) {μ : List (Option Ent)} {a : Act} {w : World} (hI : Inv C ops fs ss vs wd B p μ a.tmps w) {n0 : Nat} (hn0 : ∀ i, i ≤ ops.size → n0 ≤ (ss i).length) {K : Act → World → Prop} {Q : Exit → Act → World → Prop}
    (hK : ∀ a' w' μ', Inv C ops fs ss vs wd B (addP p j) μ' a'.tmps w' → a'.defers = a.defers → Sub μ μ' → (∀ b, b < n0 → μ'[b]? = μ[b]?) → Blw B w w' → K a' w') : wpOp C.P ops Q j K a w := by
  have hjl : j < ops.size := (Array.getElem?_eq_some_iff.1 hj).1
  have hput : ∀ (a : Act) (d : Option Tmp) (v : Value), (a.put d v).defers = a.defers := by intro a d v; cases d <;> rfl
  obtain ⟨⟨s, H, hr, hs, hh⟩, hf⟩ := hI
  have hwa := wanted_agreesR ht hd hc hj hpj hanc
  have hsle := hs.le
  have hμl : μ.length = (ss s).length := by rw [hr.len, hs.len]
  have hn0' : n0 ≤ μ.length := by
    rw [hμl]
    exact hn0 s hsle
  unfold wpOp
  simp only [hj]
  rw [wanted_eq hf hwa]
  cases hw : wd j
  · -- it is passed over
    simp only [Bool.false_eq_true, if_false]
    have hk0 : kd C ops wd j = 0 := by simp [kd, hj, hw]
    refine hK _ _ μ ⟨⟨s, H, hr, hs.add hC (by omega) (by omega), addP_hole hh⟩, ?_⟩ (hput _ _ _) (Sub.refl _) (fun _ _ => rfl) (Blw.refl _ _)
    rw [fr_nextR ht hd hc hj hpj, (ht.no j oj hj hw).1]
    exact hf.put VR.undef _
  · simp only [if_true]
    left
    have hk := kd_of (C := C) hj hw
    have hyes := ht.yes j oj hj hw
    have hop := fun τ => op_agreesR ht hd hc hj hpj hanc τ
    have finish : ∀ {v' : Value} {w' : World} {μ' : List (Option Ent)}, VR C.ex μ' (vs j) v' → Sub μ μ' → (∀ b, b < n0 → μ'[b]? = μ[b]?) → Blw B w w' →
        (∃ s' H', HR C.ex B μ' H' w' ∧ HS C ops ss wd (addP p j) s' H' ∧ ∀ i, i < s' → kd C ops wd i = 3 → addP p j i = false → ∀ e, μ'[(ss i).length]? ≠ some (some e)) → K (a.put oj.dst v') w' := by
      intro v' w' μ' h1 h2 h2' h3 h4
      refine hK _ _ μ' ⟨h4, ?_⟩ (hput _ _ _) h2 h2' h3
      rw [fr_nextR ht hd hc hj hpj]
      exact (hf.mono h2).put h1 _
    have lenlt : ∀ i, i < s → kd C ops wd i = 3 → p i = false → (ss i).length < μ.length := fun i hi hk3 hpi => by
      obtain ⟨_, _, _, h⟩ := hs.ltR hC ht hO hd hc hk3 hpi hi
      rw [hμl]; exact h
    -- where the heap stays
    have same : kd C ops wd j ≠ 2 → kd C ops wd j ≠ 3 → aOp C (fsF vs p 0 ops.toList (fs 0)) H oj.op = some (vs j, H) → oj.wp C.P a w K Q := by
      intro h2 h3 h
      refine aOp_sound hC h hf hr ?_
      intro v' w' μ' q1 q2 q3 q4
      refine finish q1 q3.sub (fun b hb => q3 b (by omega)) q4 ⟨s, H, q2, hs.add hC h2 h3, addP_hole fun i hi hk3 hpi => q3.hole (lenlt i hi hk3 hpi) (hh i hi hk3 hpi)⟩
    -- no change between the operation and the stop, if it must stand in order with all changes
    have nochange : cls C oj.op ≠ 0 → cls C oj.op ≠ 3 → st j = false → ∀ m, j < m → m < s → kd C ops wd m ≠ 2 := by
      intro hc0 hc3 hsj m hm hms h2
      obtain ⟨om, hom, _, hkm⟩ := kd_pos (C := C) (ops := ops) (wd := wd) (i := m) (by omega)
      rcases hd.two m j om oj hom hj (by omega) (by omega) hc0 hsj with ha | ha | ⟨ha, _⟩
      · have := ha.ltR hd; omega
      · have := hc _ _ ha (hs.done m hms h2)
        rw [hpj] at this; cases this
      · exact absurd ha hc3
    rcases cls_le C oj.op with h0 | h1 | h2 | h3 | h4
    · -- pure
      obtain ⟨_, hall⟩ := cls0 h0 hyes
      exact same (by omega) (by omega) (by rw [hop, hall])
    · -- it loads
      obtain ⟨_, t, x, ad, ho, hx, hld⟩ := cls1 h1 hyes
      have hjs' : st j = false → j < s := by
        intro hsj
        have hjs := hs.beforeR hd hj hw hpj hanc (by omega) hsj
        rcases Nat.lt_or_eq_of_le hjs with h | h
        · exact h
        · rcases hs.stop with h' | ⟨h', _⟩
          · omega
          · rw [← h, hk, h1] at h'; cases h'
      refine same (by omega) (by omega) ?_
      have hx' : aev (fsF vs p 0 ops.toList (fs 0)) x = some ad := by
        rw [← hx]
        refine aev_congr fun t' e => ?_
        rw [List.getD_eq_getElem?_getD, List.getD_eq_getElem?_getD, fr_agreesR ht hd hc hj hpj hanc (t := t') ?_]
        unfold looks
        rw [ho]
        exact List.mem_append_left _ (List.mem_filterMap.2 ⟨.tmp t', by simp [Op.operands, e], rfl⟩)
      have hva := aev_sound hf hx'
      have hload : aLoad C.P H t ad = some (vs j) := by
        unfold aLoad at hld ⊢
        split at hld
        · rename_i b o
          have hHb : H[b]? = (ss j)[b]? := by
            cases hsj : st j with
            | true =>
              obtain ⟨q1, q2⟩ := hsd j oj b o t x hj hsj ho hx
              rw [← q2 s hsle]
              refine hs.same b (fun i hi hk3 hpi hlen => ?_)
              have := ht.mono hC i (by omega)
              omega
            | false =>
            have hjs' := hjs' hsj
            have hblt : b < (ss j).length := by
              rcases Nat.lt_or_ge b (ss j).length with h | h
              · exact h
              · rw [List.getElem?_eq_none h] at hld; cases hld
            obtain ⟨ext, he, _⟩ := ht.grow hC (a := j) (s := s) (by omega) hsle (fun m h1' h2' => by
              rcases Nat.lt_or_eq_of_le h1' with h | h
              · exact nochange (by omega) (by omega) hsj m h h2'
              · rw [← h, hk, h1]; decide)
            have hss : (ss s)[b]? = (ss j)[b]? := by rw [he, List.getElem?_append_left hblt]
            rw [← hss]
            refine hs.same b (fun i hi hk3 hpi hlen => ?_)
            generalize a.eval x = y at hva
            cases hva with
            | ptr hm => exact hh i hi hk3 hpi _ (by rw [hlen]; exact hm)
          simp only [hHb]
          exact hld
        · cases hld
      rw [ho]
      simp only [aOp, isMem, aMem, cond_true, hx', hload]
    · -- it changes the heap
      have hjs := hs.beforeR hd hj hw hpj hanc (by omega) (hd.no hj (by omega))
      have hjs' : s = j := by
        rcases Nat.lt_or_eq_of_le hjs with h | h
        · have := hs.done j h (by rw [hk, h2])
          rw [hpj] at this; cases this
        · exact h.symm
      subst hjs'
      have hnA : ∀ i, i < s → kd C ops wd i = 3 → p i = false → ¬ Anc ops i s := fun i hi hk3 hpi ha => by
        have := hanc _ ha; rw [hpi] at this; cases this
      obtain ⟨H1, w1, w2, w3, w4⟩ : ∃ H1, aOp C (fs s) H oj.op = some (vs s, H1) ∧ H1.length = (ss (s + 1)).length ∧
          (∀ b, (∀ i, i < s → kd C ops wd i = 3 → p i = false → (ss i).length ≠ b) → H1[b]? = (ss (s + 1))[b]?) ∧ (∀ i, i < s → kd C ops wd i = 3 → p i = false → H1[(ss i).length]? = some .dead) := by
        cases hrl : rl s with
        | false =>
          have hall3 : ∀ i, i < s → kd C ops wd i = 3 → p i = true := by
            intro i hi hk3
            obtain ⟨oi, hoi, _, hki⟩ := kd_pos (C := C) (ops := ops) (wd := wd) (i := i) (by omega)
            rcases hd.two s i oj oi hj hoi (by omega) h2 (by omega) (hd.no hoi (by omega)) with ha | ha | ⟨_, _, ha⟩
            · have := ha.ltR hd; omega
            · exact hanc _ ha
            · rw [hrl] at ha; cases ha
          have hH : H = ss s := by
            apply List.ext_getElem?
            intro b
            exact hs.same b (fun i hi hk3 hpi => by rw [hall3 i hi hk3] at hpi; cases hpi)
          subst hH
          exact ⟨ss (s + 1), hyes, rfl, fun _ _ => rfl, fun i hi hk3 hpi => by rw [hall3 i hi hk3] at hpi; cases hpi⟩
        | true =>
          have hk2 : kd C ops wd s = 2 := by rw [hk, h2]
          obtain ⟨H', g1, g2, g3, g4⟩ := hO s oj hj hrl hk2 H hs.len (fun b hb => hs.same b (fun i hi hk3 hpi he => hb ⟨i, hi, hk3, hnA i hi hk3 hpi, he⟩))
          refine ⟨H', g1, g2, fun b hb => ?_, fun i hi hk3 hpi => ?_⟩
          · by_cases hf' : Free C ops ss wd s b
            · rw [g4 b hf', hs.same b hb, hO.self ht hj hrl hk2 hf']
            · exact g3 b hf'
          · rw [g4 _ ⟨i, hi, hk3, hnA i hi hk3 hpi, rfl⟩]
            exact hs.hole i hi hk3 hpi
      refine aOp_sound hC (o := oj) (v := vs s) (σ' := H1) (by rw [hop]; exact w1) hf hr ?_
      intro v' w' μ' q1 q2 q3 q4
      -- the next stop
      obtain ⟨s', hs1, hs2, hs3, hs4⟩ : ∃ s', s + 1 ≤ s' ∧ s' ≤ ops.size ∧ (∀ i, s + 1 ≤ i → i < s' → kd C ops wd i ≠ 2) ∧ (s' = ops.size ∨ kd C ops wd s' = 2) := by
        have key : ∀ d, ∃ s', s + 1 ≤ s' ∧ s' ≤ s + 1 + d ∧ (∀ i, s + 1 ≤ i → i < s' → kd C ops wd i ≠ 2) ∧ (s' = s + 1 + d ∨ kd C ops wd s' = 2) := by
          intro d
          induction d with
          | zero => exact ⟨s + 1, by omega, by omega, fun i h1 h2 => by omega, .inl rfl⟩
          | succ d ih =>
            obtain ⟨s', g1, g2, g3, g4⟩ := ih
            rcases g4 with g4 | g4
            · by_cases h : kd C ops wd s' = 2
              · exact ⟨s', g1, by omega, g3, .inr h⟩
              · exact ⟨s' + 1, by omega, by omega, fun i h1 h2 => by
                  rcases Nat.lt_or_eq_of_le (Nat.le_of_lt_succ h2) with h' | h'
                  · exact g3 i h1 h'
                  · rw [h']; exact h, .inl (by omega)⟩
            · exact ⟨s', g1, by omega, g3, .inr g4⟩
        obtain ⟨s', g1, g2, g3, g4⟩ := key (ops.size - (s + 1))
        exact ⟨s', g1, by omega, g3, by rcases g4 with h | h; · left; omega
                                        · exact .inr h⟩
      obtain ⟨ext, he, hpos⟩ := ht.grow hC (a := s + 1) (s := s') hs1 hs2 hs3
      have hafter : ∀ i, s < i → kd C ops wd i = 2 ∨ kd C ops wd i = 3 → p i = false := by
        intro i hi hki
        obtain ⟨oi, hoi, _, hki'⟩ := kd_pos (C := C) (ops := ops) (wd := wd) (i := i) (by omega)
        cases hp : p i
        · rfl
        · rcases hd.two s i oj oi hj hoi (by omega) h2 (by omega) (hd.no hoi (by omega)) with ha | ha | ⟨_, ha, _⟩
          · have := hc _ _ ha hp; rw [hpj] at this; cases this
          · have := ha.ltR hd; omega
          · omega
      have hadd : ∀ i, s < i → addP p s i = p i := fun i hi => by unfold addP; rw [if_neg (by omega)]
      have hlen' : (ss s').length = (ss (s + 1)).length + ext.length := by rw [he]; simp
      have hμ' : μ'.length = (ss (s + 1)).length := by rw [q2.len, w2]
      have hge : ∀ i, s + 1 ≤ i → i ≤ s' → (ss (s + 1)).length ≤ (ss i).length := by
        intro i h1 h2
        obtain ⟨e, he', _⟩ := ht.grow hC (a := s + 1) (s := i) h1 (by omega) (fun m g1 g2 => hs3 m g1 (by omega))
        rw [he']; simp
      refine finish (q1.mono (Sub.holes _ _)) (q3.sub.trans (Sub.holes _ ext.length)) (fun b hb => ?_) q4 ⟨s', H1 ++ List.replicate ext.length .dead, q2.dead _, ?_, ?_⟩
      · have hlt : b < μ.length := by omega
        have h3 := q3.len
        rw [List.getElem?_append_left (by omega)]
        exact q3 b hlt
      · refine ⟨hs2, ?_, ?_, by simp [hlen', w2], ?_, ?_⟩
        · rcases hs4 with h | h
          · exact .inl h
          · exact .inr ⟨h, by rw [hadd s' (by omega)]; exact hafter s' (by omega) (.inl h)⟩
        · intro i hi hk2
          by_cases his : i = s
          · subst his; simp [addP]
          · rcases Nat.lt_or_ge i s with h | h
            · have := hs.done i h hk2
              simp [addP, this]
            · exact absurd hk2 (hs3 i (by omega) hi)
        · intro i hi hk3 hpi
          by_cases hsi' : i < s
          · have hpi' : p i = false := by unfold addP at hpi; rw [if_neg (by omega)] at hpi; exact hpi
            obtain ⟨_, _, _, hl⟩ := hs.ltR hC ht hO hd hc hk3 hpi' hsi'
            have hm := ht.mono2 hC s 1 (by omega)
            rw [List.getElem?_append_left (by rw [w2]; omega)]
            exact w4 i hsi' hk3 hpi'
          have hsi : s < i := by
            rcases Nat.lt_or_eq_of_le (Nat.le_of_not_lt hsi') with h | h
            · exact h
            · subst h; rw [hk, h2] at hk3; cases hk3
          have h1 := hge i (by omega) (by omega)
          have h2' : (ss i).length < (ss s').length := by
            obtain ⟨m, row, _, hrow⟩ := ht.made hk3
            obtain ⟨e, he', _⟩ := ht.grow hC (a := i + 1) (s := s') (by omega) hs2 (fun m g1 g2 => hs3 m (by omega) g2)
            rw [he', hrow]; simp
          rw [List.getElem?_append_right (by rw [w2]; exact h1), List.getElem?_replicate, if_pos (by omega)]
        · intro b hb
          rcases Nat.lt_or_ge b (ss (s + 1)).length with h | h
          · rw [List.getElem?_append_left (by rw [w2]; exact h), he, List.getElem?_append_left h]
            exact w3 b (fun i hi hk3 hpi => hb i (by omega) hk3 (by unfold addP; rw [if_neg (by omega)]; exact hpi))
          · rcases Nat.lt_or_ge b (ss s').length with h' | h'
            · obtain ⟨i, g1, g2, g3, g4⟩ := hpos b h h'
              exact absurd g4 (hb i g2 g3 (by rw [hadd i (by omega)]; exact hafter i (by omega) (.inr g3)))
            · rw [List.getElem?_eq_none h', List.getElem?_eq_none (by simp; omega)]
      · intro i hi hk3 hpi e
        by_cases hsi' : i < s
        · have hpi' : p i = false := by unfold addP at hpi; rw [if_neg (by omega)] at hpi; exact hpi
          have hl := lenlt i hsi' hk3 hpi'
          have h3 := q3.len
          rw [List.getElem?_append_left (by omega), q3 _ hl]
          exact hh i hsi' hk3 hpi' e
        have hsi : s < i := by
          rcases Nat.lt_or_eq_of_le (Nat.le_of_not_lt hsi') with h | h
          · exact h
          · subst h; rw [hk, h2] at hk3; cases hk3
        have h1 := hge i (by omega) (by omega)
        rw [List.getElem?_append_right (by omega), List.getElem?_replicate]
        split <;> simp
    · -- it makes a block
      have hjs := hs.beforeR hd hj hw hpj hanc (by omega) (hd.no hj (by omega))
      have hjs' : j < s := by
        rcases Nat.lt_or_eq_of_le hjs with h | h
        · exact h
        · rcases hs.stop with h' | ⟨h', _⟩
          · omega
          · rw [← h, hk, h3] at h'; cases h'
      have hk3 : kd C ops wd j = 3 := by rw [hk, h3]
      obtain ⟨row, hrow, hrow', hlt⟩ := hs.ltR hC ht hO hd hc hk3 hpj hjs'
      obtain ⟨m1, row1, e1, e2, hall⟩ := cls3 h3 hyes
      obtain ⟨m2, row2, f1, f2, hA⟩ := cls3_okA (C := C) (o := oj) h3 (by rw [hop]; exact hall H) hf w
      have hm : m2 = m1 := Mk.inj f1.symm
      subst hm
      have hrr : row2 = row := by
        have g1 : row1 = row := by rw [e2] at hrow; simpa using hrow
        have g2 : row1 = row2 := by simpa using f2
        rw [← g2, g1]
      subst hrr
      obtain ⟨cs, cs', elem, rfl, hv, hrun⟩ := hA
      have hhole := hh j hjs' hk3 hpj
      have hdead := hs.hole j hjs' hk3 hpj
      have hfill := hr.fill (elem := elem) hdead hhole hv
      have hcl : (ss j).length < μ.length := lenlt j hjs' hk3 hpj
      have hget : (μ.set (ss j).length (some ⟨w.heap.size, 0, cs.length, 0, 0⟩))[(ss j).length]? = some (some ⟨w.heap.size, 0, cs.length, 0, 0⟩) := by
        rw [List.getElem?_set, if_pos rfl, if_pos hcl]
      unfold Oper.wp
      rw [hrun]
      refine finish (μ' := μ.set (ss j).length (some ⟨w.heap.size, 0, cs.length, 0, 0⟩)) ?_ (Sub.fill hhole) (fun b hb => ?_) (Blw.push' rfl hr.hB) ⟨s, H.set (ss j).length (.row cs true none), hfill, ?_, ?_⟩
      · rw [e1]
        cases m2 with
        | p =>
          have := VR.ptr (ex := C.ex) (o := 0) hget
          exact this
        | s sz len cap =>
          have := VR.slice (ex := C.ex) (o := 0) (sz := sz) (len := len) (cap := cap) hget (.inl rfl)
          exact this
      · have := hn0 j (by omega)
        rw [List.getElem?_set, if_neg (by omega)]
      · have hne : ∀ i, i < s → kd C ops wd i = 3 → addP p j i = false → i ≠ j ∧ p i = false ∧ (ss i).length ≠ (ss j).length := by
          intro i hi hki hpi
          unfold addP at hpi
          split at hpi
          · cases hpi
          · rename_i hij
            refine ⟨hij, hpi, ?_⟩
            rcases Nat.lt_or_ge i j with h | h
            · have := hs.apartR hC ht hki hk3 hpi h hjs'; omega
            · have := hs.apartR hC ht hk3 hki hpj (by omega) hi; omega
        have hstop : s = ops.size ∨ (kd C ops wd s = 2 ∧ addP p j s = false) := by
          rcases hs.stop with h | ⟨g1, g2⟩
          · exact .inl h
          · refine .inr ⟨g1, ?_⟩
            unfold addP; rw [if_neg (by omega)]; exact g2
        refine ⟨hs.le, hstop, fun i hi hki => ?_, by simp [hs.len], fun i hi hki hpi => ?_, fun b hb => ?_⟩
        · have := hs.done i hi hki; simp [addP, this]
        · obtain ⟨_, g2, g3⟩ := hne i hi hki hpi
          rw [List.getElem?_set, if_neg (fun e => g3 e.symm)]
          exact hs.hole i hi hki g2
        · rw [List.getElem?_set]
          by_cases hbj : (ss j).length = b
          · rw [if_pos hbj, if_pos (by rw [hs.len]; omega), ← hbj, hrow']
          · rw [if_neg hbj]
            refine hs.same b (fun i hi hki hpi => ?_)
            by_cases hij : i = j
            · subst hij; exact hbj
            · exact hb i hi hki (by unfold addP; rw [if_neg hij]; exact hpi)
      · intro i hi hki hpi e
        unfold addP at hpi
        split at hpi
        · cases hpi
        · rename_i hij
          have hne : (ss j).length ≠ (ss i).length := by
            rcases Nat.lt_or_ge i j with h | h
            · have := hs.apartR hC ht hki hk3 hpi h hjs'; omega
            · have := hs.apartR hC ht hk3 hki hpj (by omega) hi; omega
          rw [List.getElem?_set, if_neg hne]
          exact hh i hi hki hpi e
    · -- a call that reads
      have hjs := hs.beforeR hd hj hw hpj hanc (by omega) (hd.no hj (by omega))
      have hjs' : j < s := by
        rcases Nat.lt_or_eq_of_le hjs with h | h
        · exact h
        · rcases hs.stop with h' | ⟨h', _⟩
          · omega
          · rw [← h, hk, h4] at h'; cases h'
      have hst := cls4 hC h4 hyes
      have h3all : ∀ i, kd C ops wd i = 3 → p i = true ∧ i < j := by
        intro i hki
        obtain ⟨oi, hoi, _, hki'⟩ := kd_pos (C := C) (ops := ops) (wd := wd) (i := i) (by omega)
        have ha := hd.four i j oi oj hoi hj (by omega) h4
        exact ⟨hanc _ ha, ha.ltR hd⟩
      obtain ⟨ext, he, hpos⟩ := ht.grow hC (a := j) (s := s) (by omega) hsle (fun m h1' h2' => by
        rcases Nat.lt_or_eq_of_le h1' with h | h
        · exact nochange (by omega) (by omega) (hd.no hj (by omega)) m h h2'
        · rw [← h, hk, h4]; decide)
      have hext : ext = [] := by
        cases ext with
        | nil => rfl
        | cons x xs =>
          obtain ⟨i, g1, g2, g3, g4⟩ := hpos (ss j).length (Nat.le_refl _) (by rw [he]; simp)
          have := (h3all i g3).2
          omega
      have hH : H = ss j := by
        apply List.ext_getElem?
        intro b
        rw [hs.same b (fun i hi hk3 hpi => by rw [(h3all i hk3).1] at hpi; cases hpi), he, hext, List.append_nil]
      refine same (by omega) (by omega) ?_
      rw [hop, hH, hyes, hst]

/-- WHATEVER ORDER IS TAKEN. -/
theorem draw_allR (hC : C.Ok) (ht : Trace C ops fs ss vs wd) (hsd : Steady C ops fs ss st) (hO : HoleOk C ops fs ss vs wd rl) (hd : DrawR C ops st rl) {Q : Exit → Act → World → Prop} {n0 : Nat} (hn0 : ∀ i, i ≤ ops.size → n0 ≤ (ss i).length) {μ0 : List (Option Ent)} {w0 : World} {defers : List Deferred}
    (hQ : ∀ a' w' μ', FrR C.ex μ' (fs ops.size) a'.tmps → HR C.ex B μ' (ss ops.size) w' → a'.defers = defers → Sub μ0 μ' → (∀ b, b < n0 → μ'[b]? = μ0[b]?) → Blw B w0 w' → Q .normal a' w') :
    ∀ (fuel : Nat) (listed : Array Bool) (a : Act) (w : World) (μ : List (Option Ent)), listed.size = ops.size → closedA ops (fun i => listed.getD i false) → ((List.range ops.size).countP (fun i => !listed.getD i false)) ≤ fuel →
      Inv C ops fs ss vs wd B (fun i => listed.getD i false) μ a.tmps w → a.defers = defers → Sub μ0 μ → (∀ b, b < n0 → μ[b]? = μ0[b]?) → Blw B w0 w → wpAny C.P .any ops Q fuel listed a w := by
  have ready : ∀ (listed : Array Bool), listed.size = ops.size → ∀ i, i ∈ Region.ready .any ops listed ↔ (i < ops.size ∧ listed.getD i false = false ∧ ∀ o e, ops[i]? = some o → e ∈ o.after → Region.binds .any e = true → listed.getD e.on false = true) := by
    intro listed hsz i
    unfold Region.ready
    simp only [List.mem_filter, List.mem_range, Bool.and_eq_true]
    constructor
    · rintro ⟨h1, h2, h3⟩
      have ho : ops[i]? = some ops[i] := Array.getElem?_eq_getElem h1
      refine ⟨h1, ?_, fun o e ho' he hb => ?_⟩
      · have : i < listed.size := by omega
        simp [this] at h2 ⊢
        exact h2
      · rw [ho'] at h3
        simp only [Option.map_some, Option.getD_some] at h3
        rw [Array.all_eq_true'] at h3
        have := h3 e he
        simpa [hb] using this
    · rintro ⟨h1, h2, h3⟩
      have ho : ops[i]? = some ops[i] := Array.getElem?_eq_getElem h1
      refine ⟨h1, ?_, ?_⟩
      · have : i < listed.size := by omega
        simp [this] at h2 ⊢
        exact h2
      · rw [ho]
        simp only [Option.map_some, Option.getD_some]
        rw [Array.all_eq_true']
        intro e he
        cases hb : Region.binds .any e
        · rfl
        · simp [h3 _ e ho he hb]
  have ancs : ∀ (listed : Array Bool), listed.size = ops.size → closedA ops (fun i => listed.getD i false) → ∀ i, i ∈ Region.ready .any ops listed → ∀ k, Anc ops k i → listed.getD k false = true := by
    intro listed hsz hcl i hi k ha
    obtain ⟨_, _, h3⟩ := (ready listed hsz i).1 hi
    cases ha with
    | one ho he hb hon => rw [← hon]; exact h3 _ _ ho he hb
    | step ho he hb h => exact hcl _ _ h (h3 _ _ ho he hb)
  have finish : ∀ (listed : Array Bool) (a : Act) (w : World) (μ : List (Option Ent)), listed.size = ops.size → (∀ i, i < ops.size → listed.getD i false = true) → Inv C ops fs ss vs wd B (fun i => listed.getD i false) μ a.tmps w →
      a.defers = defers → Sub μ0 μ → (∀ b, b < n0 → μ[b]? = μ0[b]?) → Blw B w0 w → Q .normal a w := by
    intro listed a w μ hsz hall hI h1 h2 h2' h3
    obtain ⟨⟨s, H, hr, hs, hh⟩, hf⟩ := hI
    have hsn : s = ops.size := by
      rcases hs.stop with h | ⟨h, h'⟩
      · exact h
      · obtain ⟨o, ho, _, _⟩ := kd_pos (C := C) (ops := ops) (wd := wd) (i := s) (by omega)
        have := hall s (Array.getElem?_eq_some_iff.1 ho).1
        rw [this] at h'; cases h'
    subst hsn
    have hH : H = ss ops.size := by
      apply List.ext_getElem?
      intro b
      exact hs.same b (fun i hi hk3 hpi => by rw [hall i hi] at hpi; cases hpi)
    subst hH
    have hF : fsF vs (fun i => listed.getD i false) 0 ops.toList (fs 0) = fs ops.size := by
      rw [← fsF_prefix ht ops.size ops.toList 0 (fun i => by simp) (Nat.zero_le _) (by simp)]
      apply List.ext_getElem?
      intro t
      refine fsF_congr vs _ _ t ops.toList 0 _ _ (fun i o hi hd' => ?_) rfl rfl
      have : i < ops.size := by have := lt_of_some hi; simpa using this
      rw [Nat.zero_add, hall i this]
      simp [this]
    rw [hF] at hf
    exact hQ a w μ hf hr h1 h2 h2' h3
  have stuck : ∀ (listed : Array Bool), listed.size = ops.size → Region.ready .any ops listed = [] → ∀ i, i < ops.size → listed.getD i false = true := by
    intro listed hsz hr i
    induction i using Nat.strongRecOn with
    | _ i ih =>
      intro hi
      cases hl : listed.getD i false
      · exfalso
        have : i ∈ Region.ready .any ops listed := (ready listed hsz i).2 ⟨hi, hl, fun o e ho he hb => ih e.on (hd.low i o e ho he hb) (Nat.lt_trans (hd.low i o e ho he hb) hi)⟩
        rw [hr] at this; cases this
      · rfl
  intro fuel
  induction fuel with
  | zero =>
    intro listed a w μ hsz hcl hcnt hI h1 h2 h2' h3
    have hall : ∀ i, i < ops.size → listed.getD i false = true := by
      intro i hi
      have h0 : (List.range ops.size).countP (fun i => !listed.getD i false) = 0 := by omega
      rw [List.countP_eq_zero] at h0
      have := h0 i (by simpa using hi)
      simpa using this
    refine ⟨?_, finish listed a w μ hsz hall hI h1 h2 h2' h3⟩
    rw [List.eq_nil_iff_forall_not_mem]
    intro i hi
    obtain ⟨q1, q2, _⟩ := (ready listed hsz i).1 hi
    rw [hall i q1] at q2; cases q2
  | succ fuel ih =>
    intro listed a w μ hsz hcl hcnt hI h1 h2 h2' h3
    refine ⟨fun hr => finish listed a w μ hsz (stuck listed hsz hr) hI h1 h2 h2' h3, fun i hi => ?_⟩
    obtain ⟨q1, q2, q3⟩ := (ready listed hsz i).1 hi
    have ho : ops[i]? = some ops[i] := Array.getElem?_eq_getElem q1
    have hP : (fun k => (listed.setIfInBounds i true).getD k false) = addP (fun k => listed.getD k false) i := by
      funext k
      unfold addP
      by_cases hk : k = i
      · subst hk; rw [if_pos rfl]; simp [hsz, q1]
      · rw [if_neg hk]
        show (listed.setIfInBounds i true).getD k false = listed.getD k false
        rw [Array.getD_eq_getD_getElem?, Array.getD_eq_getD_getElem?, Array.getElem?_setIfInBounds_ne (fun e => hk e.symm)]
    refine draw_stepR hC ht hsd hO hd hcl ho q2 (ancs listed hsz hcl i hi) hI hn0 ?_
    intro a' w' μ' r1 r2 r3 r3' r4
    refine ih _ a' w' μ' (by simpa using hsz) ?_ ?_ (by rw [hP]; exact r1) (r2.trans h1) (h2.trans r3) (fun b hb => (r3' b hb).trans (h2' b hb)) (h3.trans r4)
    · rw [hP]
      intro k m ha hm
      unfold addP at hm ⊢
      by_cases hmi : m = i
      · subst hmi
        show (if k = m then true else listed.getD k false) = true
        rw [ancs listed hsz hcl m hi k ha]; simp
      · rw [if_neg hmi] at hm
        show (if k = i then true else listed.getD k false) = true
        have h' : listed.getD k false = true := hcl k m ha hm
        rw [h']; simp
    · have hlt : (List.range ops.size).countP (fun k => !(listed.setIfInBounds i true).getD k false) < (List.range ops.size).countP (fun k => !listed.getD k false) := by
        have e : (fun k => !(listed.setIfInBounds i true).getD k false) = fun k => !(addP (fun k => listed.getD k false) i k) := by
          funext k; rw [← hP]
        rw [e]
        have hmem : i ∈ List.range ops.size := by simpa using q1
        obtain ⟨l1, l2, hl⟩ := List.append_of_mem hmem
        rw [hl, List.countP_append, List.countP_append, List.countP_cons, List.countP_cons]
        have m1 : ∀ l : List Nat, l.countP (fun k => !(addP (fun k => listed.getD k false) i k)) ≤ l.countP (fun k => !listed.getD k false) := by
          intro l
          apply List.countP_mono_left
          intro k _ hk
          unfold addP at hk
          split at hk
          · cases hk
          · exact hk
        have := m1 l1
        have := m1 l2
        have e1 : (!(addP (fun k => listed.getD k false) i i)) = false := by simp [addP]
        have e2 : (!listed.getD i false) = true := by rw [q2]; rfl
        rw [e1, e2]
        simp only [Bool.false_eq_true, if_false, if_true]
        omega
      omega

theorem Sim.drawR (hC : C.Ok) {id : Nat} {ops : Array Oper} {st rl : Nat → Bool} {fr fr' : List Value} {σ σ' : AHeap} (hd : DrawR C ops st rl) {fs : Nat → List Value} {ss : Nat → AHeap} {vs : Nat → Value} {wd : Nat → Bool}
    (e1 : fs 0 = fr) (e2 : ss 0 = σ) (e3 : fs ops.size = fr') (e4 : ss ops.size = σ') (ht : Trace C ops fs ss vs wd) (hsd : Steady C ops fs ss st) (hO : HoleOk C ops fs ss vs wd rl) :
    Sim C σ.length (.region id ops true) fr σ .normal fr' σ' := by
  intro B μ tmps defers w Q hf hr hQ
  refine wp_region_any hC.mix ?_
  -- the first stop
  obtain ⟨s, hs2, hs3, hs4⟩ : ∃ s', s' ≤ ops.size ∧ (∀ i, i < s' → kd C ops wd i ≠ 2) ∧ (s' = ops.size ∨ kd C ops wd s' = 2) := by
    have key : ∀ d, ∃ s', s' ≤ d ∧ (∀ i, i < s' → kd C ops wd i ≠ 2) ∧ (s' = d ∨ kd C ops wd s' = 2) := by
      intro d
      induction d with
      | zero => exact ⟨0, by omega, fun i h => by omega, .inl rfl⟩
      | succ d ih =>
        obtain ⟨s', g2, g3, g4⟩ := ih
        rcases g4 with g4 | g4
        · by_cases h : kd C ops wd s' = 2
          · exact ⟨s', by omega, g3, .inr h⟩
          · exact ⟨s' + 1, by omega, fun i h2 => by
              rcases Nat.lt_or_eq_of_le (Nat.le_of_lt_succ h2) with h' | h'
              · exact g3 i h'
              · rw [h']; exact h, .inl (by omega)⟩
        · exact ⟨s', by omega, g3, .inr g4⟩
    exact key ops.size
  obtain ⟨ext, he, hpos⟩ := ht.grow hC (a := 0) (s := s) (Nat.zero_le _) hs2 (fun i _ h2 => hs3 i h2)
  have hlen' : (ss s).length = σ.length + ext.length := by rw [he, e2]; simp
  have hfalse : ∀ i, (Array.replicate ops.size false).getD i false = false := by
    intro i
    by_cases hi : i < ops.size
    · simp [hi]
    · simp [hi]
  have hge : ∀ i, i ≤ s → σ.length ≤ (ss i).length := by
    intro i hi
    have := ht.mono hC i (by omega)
    rw [e2] at this; exact this
  refine draw_allR (B := B) hC ht hsd hO hd (n0 := σ.length) (fun i hi => by have := ht.mono hC i hi; rw [e2] at this; exact this) (μ0 := μ ++ List.replicate ext.length none) (w0 := w) (defers := defers) ?_
    ops.size (Array.replicate ops.size false) ⟨tmps, defers⟩ { w with drawn := w.drawn + 1 } (μ ++ List.replicate ext.length none) (by simp) (fun i j _ hj => absurd hj (by show ¬ (Array.replicate ops.size false).getD j false = true; rw [hfalse j]; decide)) ?_ ?_ rfl (Sub.refl _) (fun _ _ => rfl) (Blw.drawn _ _)
  · intro a' w' μ' q1 q2 q3 q4 q5 q6
    obtain ⟨tmps', d'⟩ := a'
    cases q3
    refine hQ μ' tmps' w' (by rw [← e3]; exact q1) (by rw [← e4]; exact q2) (fun b hb => ?_) q6
    rw [q5 b hb, List.getElem?_append_left (by rw [hr.len]; exact hb)]
  · have := List.countP_le_length (p := fun i => !(Array.replicate ops.size false).getD i false) (l := List.range ops.size)
    simpa using this
  · refine ⟨⟨s, σ ++ List.replicate ext.length .dead, (hr.of_heap (w' := { w with drawn := w.drawn + 1 }) rfl).dead _, ?_, ?_⟩, ?_⟩
    · refine ⟨hs2, ?_, fun i hi h2 => absurd h2 (hs3 i hi), by simp [hlen'], ?_, ?_⟩
      · rcases hs4 with h | h
        · exact .inl h
        · exact .inr ⟨h, hfalse s⟩
      · intro i hi hk3 _
        have h1 := hge i (by omega)
        have h2' : (ss i).length < (ss s).length := by
          obtain ⟨m, row, _, hrow⟩ := ht.made hk3
          obtain ⟨e, he', _⟩ := ht.grow hC (a := i + 1) (s := s) (by omega) hs2 (fun m g1 g2 => hs3 m g2)
          rw [he', hrow]; simp
        rw [List.getElem?_append_right h1, List.getElem?_replicate, if_pos (by omega)]
      · intro b hb
        rcases Nat.lt_or_ge b σ.length with h | h
        · rw [List.getElem?_append_left h, he, e2, List.getElem?_append_left h]
        · rcases Nat.lt_or_ge b (ss s).length with h' | h'
          · obtain ⟨i, g1, g2, g3, g4⟩ := hpos b (by rw [e2]; exact h) h'
            exact absurd g4 (hb i g2 g3 (hfalse i))
          · rw [List.getElem?_eq_none h', List.getElem?_eq_none (by simp; omega)]
    · intro i hi hk3 _ e
      have h1 := hge i (by omega)
      rw [List.getElem?_append_right (by rw [hr.len]; exact h1), List.getElem?_replicate]
      split <;> simp
    · rw [fsF_none _ _ _ _ _ (fun i _ _ => hfalse i), e1]
      exact hf.mono (Sub.holes _ _)


def pairR (C : Cfg) (ops : Array Oper) (sl rl : List Nat) (m : List Nat) (i j : Nat) (oi oj : Oper) : Bool :=
  (match oi.dst with
    | none => true
    | some t => !((looks ops oj).contains t || oj.dst == some t) || ordB m i j) &&
  (!(cls C oi.op == 2 && cls C oj.op != 0) || sl.contains j || ordB m i j || (cls C oj.op == 3 && (decide (j < i) && rl.contains i))) &&
  (!(cls C oi.op == 3 && cls C oj.op == 4) || (m.getD j 0).testBit i)

def drawOkR (C : Cfg) (ops : Array Oper) (sl rl : List Nat) : Bool :=
  let m := masks ops.toList []
  (sl.all fun j => match ops[j]? with | some o => cls C o.op == 1 | none => true) && (List.range ops.size).all fun j =>
    match ops[j]? with
    | none => true
    | some oj =>
      (oj.after.toList.all fun e => !Region.binds .any e || decide (e.on < j)) &&
      (List.range ops.size).all fun i =>
        match ops[i]? with
        | none => true
        | some oi => i == j || pairR C ops sl rl m i j oi oj

theorem drawOkR_spec {C : Cfg} {ops : Array Oper} {sl rl : List Nat} (h : drawOkR C ops sl rl = true) : DrawR C ops (fun j => sl.contains j) (fun j => rl.contains j) := by
  have hm : ∀ i j, ((masks ops.toList []).getD j 0).testBit i = true → Anc ops i j := masks_get ops.toList [] (fun j => by simp) (fun i j h => by simp at h)
  have ho : ∀ i j, ordB (masks ops.toList []) i j = true → Anc ops i j ∨ Anc ops j i := by
    intro i j h
    unfold ordB at h
    rw [Bool.or_eq_true] at h
    exact h.imp (hm _ _) (hm _ _)
  unfold drawOkR at h
  rw [Bool.and_eq_true] at h
  obtain ⟨hsl, h⟩ := h
  simp only [List.all_eq_true, List.mem_range] at h
  have hj : ∀ j oj, ops[j]? = some oj → (oj.after.toList.all fun e => !Region.binds .any e || decide (e.on < j)) = true ∧
      ∀ i oi, ops[i]? = some oi → i ≠ j → pairR C ops sl rl (masks ops.toList []) i j oi oj = true := by
    intro j oj hoj
    have h1 := h j (Array.getElem?_eq_some_iff.1 hoj).1
    rw [hoj] at h1
    simp only [Bool.and_eq_true, List.all_eq_true, List.mem_range] at h1
    refine ⟨by rw [List.all_eq_true]; exact h1.1, fun i oi hoi hne => ?_⟩
    have h2 := h1.2 i (Array.getElem?_eq_some_iff.1 hoi).1
    rw [hoi] at h2
    simpa [hne] using h2
  refine ⟨fun j o e hoj he hb => ?_, fun i j oi oj t hoi hoj hne hd hl => ?_, fun i j oi oj hoi hoj hne h2 h0 hsj => ?_, fun j oj hoj hsj => ?_, fun i j oi oj hoi hoj h3 h4 => ?_⟩
  · have := (hj j o hoj).1
    rw [List.all_eq_true] at this
    have := this e (by simpa using he)
    simpa [hb] using this
  · have := (hj j oj hoj).2 i oi hoi hne
    unfold pairR at this
    simp only [Bool.and_eq_true] at this
    have h1 := this.1.1
    rw [hd] at h1
    simp only [Bool.or_eq_true, Bool.not_eq_true'] at h1
    rcases h1 with h1 | h1
    · exfalso
      rw [Bool.or_eq_false_iff] at h1
      rcases hl with hl | hl
      · have := h1.1; simp at this; exact this hl
      · have := h1.2; simp [hl] at this
    · exact ho _ _ h1
  · have := (hj j oj hoj).2 i oi hoi hne
    unfold pairR at this
    simp only [Bool.and_eq_true] at this
    have h1 := this.1.2
    rw [hsj] at h1
    simp only [Bool.or_eq_true, Bool.not_eq_true', h2] at h1
    rcases h1 with ((h1 | h1) | h1) | h1
    · simp [h0] at h1
    · cases h1
    · rcases ho _ _ h1 with h | h
      · exact .inl h
      · exact .inr (.inl h)
    · simp only [Bool.and_eq_true, beq_iff_eq, decide_eq_true_eq] at h1
      exact .inr (.inr ⟨h1.1, h1.2.1, h1.2.2⟩)
  · rw [List.all_eq_true] at hsl
    have := hsl j (by simpa using hsj)
    rw [hoj] at this
    simpa using this
  · have hne : i ≠ j := by rintro rfl; rw [hoi] at hoj; cases hoj; omega
    have := (hj j oj hoj).2 i oi hoi hne
    unfold pairR at this
    simp only [Bool.and_eq_true] at this
    have h1 := this.2
    simp only [Bool.or_eq_true, Bool.not_eq_true', h3, h4] at h1
    rcases h1 with h1 | h1
    · simp at h1
    · exact hm _ _ h1

end
end Go.Lk
