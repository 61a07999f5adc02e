import Derived.Test.YtmomainjlncogaaSq3
section
/- Whole parts; wrapping. -/
namespace Go.Lk
open Ieee (Format Datum Toward)
set_option linter.unusedSimpArgs false
set_option linter.unusedVariables false

/-- One, in units of the least place. -/
def U : Nat := 2 ^ 1074
theorem U_spec : ∃ n, n = 1074 ∧ U = 2 ^ n := ⟨1074, rfl, by unfold U; rfl⟩
theorem U_pos : 0 < U := by obtain ⟨n, _, h⟩ := U_spec; rw [h]; exact Nat.two_pow_pos n

theorem U_of : 2 ^ ((0 : Int) + 1074).toNat = U := by
  obtain ⟨n, hn, hU⟩ := U_spec
  rw [hU]
  have : ((0 : Int) + 1074).toNat = n := by clear hU; omega
  rw [this]
/-! ### Signs -/
theorem xor_lo {r : Nat} (h : r < 2 ^ 63) : r ^^^ 2 ^ 63 = 2 ^ 63 + r := by
  apply Nat.eq_of_testBit_eq
  intro i
  rw [Nat.testBit_xor, Nat.testBit_two_pow]
  rcases Nat.lt_trichotomy i 63 with hi | rfl | hi
  · rw [Nat.testBit_two_pow_add_gt hi]
    have : decide (63 = i) = false := by simp; omega
    rw [this]; simp
  · rw [Nat.testBit_two_pow_add_eq]
    have : r.testBit 63 = false := Nat.testBit_lt_two_pow h
    simp [this]
  · have h1 : r.testBit i = false := Nat.testBit_lt_two_pow (Nat.lt_of_lt_of_le h (pow_ge (by omega)))
    have h2 : (2 ^ 63 + r).testBit i = false := Nat.testBit_lt_two_pow (Nat.lt_of_lt_of_le (show 2 ^ 63 + r < 2 ^ 64 by omega) (pow_ge (by omega)))
    have : decide (63 = i) = false := by simp; omega
    rw [h1, h2, this]; rfl
theorem xor_wd {s : Bool} {r : Nat} (h : r < 2 ^ 63) : wd s r ^^^ 2 ^ 63 = wd (!s) r := by
  cases s
  · exact xor_lo h
  · show (2 ^ 63 + r) ^^^ 2 ^ 63 = r
    rw [← xor_lo h, Nat.xor_assoc, Nat.xor_self, Nat.xor_zero]
theorem fneg_wd {s : Bool} {r : Nat} (h : r ≤ 2047 * 2 ^ 52) : fneg (wd s r) = wd (!s) r := by
  unfold fneg
  have : isNaN (wd s r) = false := by rw [isNaN_iff, rg_wd (by omega)]; simp; omega
  rw [this]; exact xor_wd (by omega)
theorem Canon.fneg {x : Nat} (h : Canon x) : Canon (fneg x) := by
  rcases h.three with h' | ⟨s, rfl⟩ | rfl
  · have hr : rg x < 2047 * 2 ^ 52 := of_decide_eq_true h'
    rw [← wd_sg h.lt, fneg_wd (by omega)]
    exact ⟨wd_lt (by omega), fun h => by rw [fin_num (fin_wd hr)] at h; cases h⟩
  · rw [fneg_wd (by omega)]
    exact ⟨wd_lt (by omega), fun h => by rw [isNaN_iff, rg_wd (by omega)] at h; simp at h⟩
  · exact Canon.qnan
theorem fneg_fin {x : Nat} (hl : x < 2 ^ 64) (h : isFin x = true) : isFin (fneg x) = true ∧ fx (fneg x) = - fx x ∧ sg (fneg x) = !sg x := by
  have hr : rg x < 2047 * 2 ^ 52 := of_decide_eq_true h
  have e : fneg x = wd (!sg x) (rg x) := by
    have h1 : fneg (wd (sg x) (rg x)) = wd (!sg x) (rg x) := fneg_wd (by omega)
    rwa [wd_sg hl] at h1
  rw [e]
  exact ⟨fin_wd hr, by rw [fx_wd (by omega), sgn_not]; rfl, sg_wd (by omega)⟩

/-! ### Whole parts -/
theorem whole_eq {m : Nat} {p : Int} (hp : -1074 ≤ p) : m * 2 ^ p.toNat / 2 ^ (-p).toNat = m * 2 ^ (p + 1074).toNat / U ∧ (m * 2 ^ p.toNat % 2 ^ (-p).toNat = 0 ↔ m * 2 ^ (p + 1074).toNat % U = 0) := by
  obtain ⟨u, hu, hU⟩ := U_spec
  rw [hU]
  clear hU
  rcases Int.le_total 0 p with h | h
  · have e1 : (-p).toNat = 0 := by omega
    have e2 : (p + 1074).toNat = p.toNat + u := by omega
    rw [e1, e2, Nat.pow_add, ← Nat.mul_assoc, Nat.mul_div_cancel _ (Nat.two_pow_pos _), Nat.mul_mod_left]
    simp [Nat.mod_one]
  · have e1 : p.toNat = 0 := by omega
    generalize hk : (-p).toNat = k
    have e2 : (p + 1074).toNat = u - k := by omega
    have hk2 : k ≤ u := by omega
    have e3 : 2 ^ u = 2 ^ k * 2 ^ (u - k) := by rw [← Nat.pow_add]; congr 1; omega
    rw [e1, e2, e3, Nat.mul_div_mul_right _ _ (Nat.two_pow_pos _), Nat.mul_mod_mul_right]
    simp only [Nat.pow_zero, Nat.mul_one, true_and]
    have := Nat.two_pow_pos (u - k)
    rw [Nat.mul_eq_zero]
    constructor
    · intro h; exact .inl h
    · rintro (h | h)
      · exact h
      · omega

theorem ftrunc_fin {x : Nat} (h : isFin x = true) : ftrunc x = wd (sg x) (rung (fxr (rg x) / U * U)) := by
  obtain ⟨m, p, e, hp, hm, hlt⟩ := read_fin h
  unfold ftrunc
  rw [fin_num h, cond_false, e]
  simp only [Datum.integral, Nat.shiftLeft_eq, cut_zero]
  show dbl.nearest _ _ 0 = _
  rw [nearest_eq _ _ _ (by omega), (whole_eq hp).1, hm, U_of]
theorem ffloor_fin {x : Nat} (h : isFin x = true) : ffloor x = wd (sg x) (rung ((fxr (rg x) / U + (sg x && fxr (rg x) % U != 0).toNat) * U)) := by
  obtain ⟨m, p, e, hp, hm, hlt⟩ := read_fin h
  unfold ffloor
  rw [fin_num h, cond_false, e]
  simp only [Datum.integral, Nat.shiftLeft_eq, cut_down]
  show dbl.nearest _ _ 0 = _
  have hw := whole_eq (m := m) hp
  rw [hm] at hw
  have : (m * 2 ^ p.toNat % 2 ^ (-p).toNat != 0) = (fxr (rg x) % U != 0) := by
    rw [Bool.eq_iff_iff]; simp only [bne_iff_ne, ne_eq, hw.2]
  rw [nearest_eq _ _ _ (by omega), this, hw.1, U_of]

/-- A finite value: so few digits. -/
theorem form_whole {T c j : Nat} (e : T = c * 2 ^ j) (hc : c < 2 ^ 53) : (∃ c' j', T / U * U = c' * 2 ^ j' ∧ c' < 2 ^ 53) ∧ (∃ c' j', T % U = c' * 2 ^ j' ∧ c' < 2 ^ 53) := by
  obtain ⟨u, hu, hU⟩ := U_spec
  rw [hU]
  clear hu hU
  rcases Nat.le_total u j with h | h
  · have e1 : T = c * 2 ^ (j - u) * 2 ^ u := by rw [Nat.mul_assoc, ← Nat.pow_add, Nat.sub_add_cancel h]; exact e
    refine ⟨⟨c, j, ?_, hc⟩, ⟨0, 0, ?_, by decide⟩⟩
    · rw [e1, Nat.mul_div_cancel _ (Nat.two_pow_pos _), ← e1, e]
    · rw [e1, Nat.mul_mod_left]
  · have e1 : 2 ^ u = 2 ^ (u - j) * 2 ^ j := by rw [← Nat.pow_add]; congr 1; omega
    refine ⟨⟨c / 2 ^ (u - j), u, ?_, Nat.lt_of_le_of_lt (Nat.div_le_self ..) hc⟩, ⟨c % 2 ^ (u - j), j, ?_, Nat.lt_of_le_of_lt (Nat.mod_le ..) hc⟩⟩
    · rw [e]
      have : c * 2 ^ j / 2 ^ u = c / 2 ^ (u - j) := by rw [e1, Nat.mul_div_mul_right _ _ (Nat.two_pow_pos _)]
      rw [this]
    · rw [e, e1, Nat.mul_mod_mul_right]

theorem trunc_val {x : Nat} (h : isFin x = true) : isFin (ftrunc x) = true ∧ fx (ftrunc x) = sgn (sg x) (fxr (rg x) / U * U) ∧ sg (ftrunc x) = sg x := by
  have hr : rg x < 2047 * 2 ^ 52 := of_decide_eq_true h
  obtain ⟨c, j, e, hc⟩ := fxr_form (rg x)
  obtain ⟨h1, h2⟩ := rung_small (T := fxr (rg x) / U * U) (r := rg x) (Nat.div_mul_le_self ..) hr (form_whole e hc).1
  rw [ftrunc_fin h]
  exact ⟨fin_wd h1, by rw [fx_wd (rung_lt _), h2], sg_wd (rung_lt _)⟩

/-- What is behind the point. -/
theorem frac_val {x : Nat} (h : isFin x = true) : fsub x (ftrunc x) = (if fxr (rg x) % U = 0 then 0 else wd (sg x) (rung (fxr (rg x) % U))) ∧ rung (fxr (rg x) % U) < 2047 * 2 ^ 52 ∧ fxr (rung (fxr (rg x) % U)) = fxr (rg x) % U := by
  have hr : rg x < 2047 * 2 ^ 52 := of_decide_eq_true h
  obtain ⟨c, j, e, hc⟩ := fxr_form (rg x)
  have hs := rung_small (T := fxr (rg x) % U) (r := rg x) (Nat.mod_le ..) hr (form_whole e hc).2
  refine ⟨?_, hs.1, hs.2⟩
  obtain ⟨h1, h2, h3⟩ := trunc_val h
  rw [fsub_fin h h1, h2, h3, Bool.and_not_self]
  have hd : fx x - sgn (sg x) (fxr (rg x) / U * U) = sgn (sg x) (fxr (rg x) % U) := by
    have := Nat.div_add_mod (fxr (rg x)) U
    rw [Nat.mul_comm] at this
    unfold fx sgn
    generalize fxr (rg x) / U * U = a at *
    split <;> omega
  rw [hd]
  unfold rnd
  by_cases h0 : fxr (rg x) % U = 0
  · rw [if_pos h0, if_pos (sgn_eq_zero.2 h0)]; rfl
  · have h1 : sgn (sg x) (fxr (rg x) % U) ≠ 0 := fun h => h0 (sgn_eq_zero.1 h)
    rw [if_neg h0, if_neg h1, sgn_abs, ← sgn_neg h1]

/-! ### Wrapping -/
def fcopysign (a b : Nat) : Nat := bif isNaN a then qnan else wd (sg b) (rg a)
def fabs (a : Nat) : Nat := bif isNaN a then qnan else rg a
def half : Nat := 4602678819172646912
def mhalf : Nat := 13826050856027422720
def fone : Nat := 4607182418800017408
def wStep (r : Nat) : Nat := bif fge r half then fsub r fone else bif flt r mhalf then fadd r fone else r
/-- The program's. -/
def wrapP (x : Nat) : Nat := bif feq (fsub x x) 0 then fadd (wStep (fcopysign (fsub x (ftrunc x)) x)) 0 else qnan
/-- The document's. -/
def wrapR (x : Nat) : Nat := bif isFin x then wStep (fsub x (bif flt x 0 then fneg (ffloor (fneg x)) else ffloor x)) else qnan

theorem floor_eq_trunc {x : Nat} (hl : x < 2 ^ 64) (h : isFin x = true) : (bif flt x 0 then fneg (ffloor (fneg x)) else ffloor x) = ftrunc x := by
  have hr : rg x < 2047 * 2 ^ 52 := of_decide_eq_true h
  rw [flt_fin h fin_zero, fx_0]
  obtain ⟨n1, n2, n3⟩ := fneg_fin hl h
  have hneg : fneg x = wd (!sg x) (rg x) := by
    have h1 : fneg (wd (sg x) (rg x)) = wd (!sg x) (rg x) := fneg_wd (by omega)
    rwa [wd_sg hl] at h1
  cases hs : sg x
  · have : ¬ fx x < 0 := by unfold fx sgn; rw [hs]; simp
    rw [decide_eq_false this, cond_false, ffloor_fin h, ftrunc_fin h, hs]
    simp
  · by_cases h0 : fxr (rg x) = 0
    · have : ¬ fx x < 0 := by unfold fx; rw [h0, sgn_zero]; omega
      rw [decide_eq_false this, cond_false, ffloor_fin h, ftrunc_fin h, h0]
      simp
    · have : fx x < 0 := by unfold fx sgn; rw [hs]; simp; omega
      rw [decide_eq_true this, cond_true, ffloor_fin n1, ftrunc_fin h, n3, hs, hneg, rg_wd (by omega)]
      simp only [Bool.not_true, Bool.false_and, Bool.toNat_false, Nat.add_zero]
      exact fneg_wd (rung_le _)

theorem fin_half : isFin half = true := by decide
theorem fin_one : isFin fone = true := by decide
theorem wStep_zero (s : Bool) : wStep (wd s 0) = wd s 0 := by cases s <;> decide +kernel
theorem fadd_wd0 (s : Bool) : fadd (wd s 0) 0 = 0 := by cases s <;> decide +kernel
theorem fx_half_pos : 0 < fx half := by decide +kernel
theorem sg_one : sg fone = false := by decide

theorem wStep_clean {d : Nat} (hc : Canon d) (hf : isFin d = true) (h0 : fx d ≠ 0) : fadd (wStep d) 0 = wStep d := by
  unfold wStep
  cases h1 : fge d half
  · cases h2 : flt d mhalf
    · refine fadd_zero_of hc fun h => h0 ?_
      simp only [cond_false] at h
      rw [h]; decide
    · refine fadd_zero_of (Canon.fadd _ _) fun h => ?_
      simp only [cond_false, cond_true] at h
      rw [fadd_fin hf fin_one] at h
      have := (rnd_neg0 h).2
      rw [sg_one, Bool.and_false] at this
      cases this
  · refine fadd_zero_of (Canon.fsub _ _) fun h => ?_
    simp only [cond_true] at h
    rw [fsub_fin hf fin_one] at h
    have := (rnd_neg0 h).2
    rw [fge_fin hf fin_half] at h1
    have h1 := of_decide_eq_true h1
    have hp := fx_half_pos
    simp only [Bool.and_eq_true] at this
    have hs := this.1
    have : fx d ≤ 0 := by unfold fx sgn; rw [hs]; simp
    omega

theorem wrap_eq {x : Nat} (h : Canon x) : wrapP x = wrapR x := by
  unfold wrapP wrapR
  rw [fin_test h]
  cases hf : isFin x
  · rfl
  simp only [cond_true]
  rw [floor_eq_trunc h.lt hf]
  obtain ⟨h1, h2, h3⟩ := frac_val hf
  rw [h1]
  split
  · rename_i h0
    have : fcopysign 0 x = wd (sg x) 0 := by unfold fcopysign; rw [show isNaN 0 = false by decide +kernel]; rfl
    rw [this, wStep_zero, fadd_wd0]
    exact (wStep_zero false).symm
  · rename_i h0
    have e : fcopysign (wd (sg x) (rung (fxr (rg x) % U))) x = wd (sg x) (rung (fxr (rg x) % U)) := by
      unfold fcopysign
      rw [fin_num (fin_wd h2), cond_false, rg_wd (by omega)]
    rw [e]
    refine wStep_clean ⟨wd_lt (by omega), fun h => ?_⟩ (fin_wd h2) ?_
    · rw [fin_num (fin_wd h2)] at h; cases h
    · rw [fx_wd (by omega), h3, Ne, sgn_eq_zero]; exact h0
theorem Canon.wStep {d : Nat} (h : Canon d) : Canon (wStep d) := by
  unfold Lk.wStep
  cases fge d half
  · cases flt d mhalf
    · exact h
    · exact Canon.fadd _ _
  · exact Canon.fsub _ _
theorem Canon.wrapP (x : Nat) : Canon (wrapP x) := by
  unfold Lk.wrapP
  cases feq (Lk.fsub x x) 0
  · exact Canon.qnan
  · exact Canon.fadd _ _
end Go.Lk
end

section
/- What a function does in a small heap it does in a greater one. -/
namespace Go.Lk
set_option linter.unusedSimpArgs false
set_option linter.unusedVariables false

/-- The small heap's rows are rows of the great one; they are only read. -/
structure Reads (σ0 : AHeap) (r : Nat → Nat) (σ : AHeap) : Prop where
  row : ∀ b o, σ0[b]? = some o → ∃ vs opn rw, o = .row vs false opn ∧ σ[r b]? = some (.row vs rw opn) ∧ vs.all plain = true
  out : ∀ b, σ0.length ≤ b → σ.length ≤ r b

theorem VRs.plain_to {ex : Bool} {μ μ' : List (Option Ent)} {vs cs : List Value} (hp : vs.all plain = true) (h : VRs ex μ vs cs) : VRs ex μ' vs cs := h.plain_ren hp

theorem Reads.back {ex : Bool} {B : Nat → Prop} {μ : List (Option Ent)} {σ0 σ : AHeap} {w : World} {r : Nat → Nat} (h : HR ex B μ σ w) (hs : Reads σ0 r σ) : ∀ b e, μ[r b]? = some (some e) → (renM μ r σ0.length)[b]? = some (some e) := by
  intro b e hb
  refine renM_back ?_ hb
  rcases Nat.lt_or_ge b σ0.length with h' | h'
  · exact h'
  · have := hs.out b h'
    have := lt_of_some hb
    have := h.len
    omega
theorem Reads.heap {ex : Bool} {B : Nat → Prop} {μ : List (Option Ent)} {σ0 σ : AHeap} {w : World} {r : Nat → Nat} (h : HR ex B μ σ w) (hs : Reads σ0 r σ) : HR ex (old w) (renM μ r σ0.length) σ0 w := by
  refine ⟨by simp [renM], fun _ hk => hk, fun b o hb hl => ?_, fun b o e hb he => ?_, fun b b' o o' e e' hb hb' he he' ho hl hc => ?_⟩
  · obtain ⟨vs, opn, rw', rfl, h2, h3⟩ := hs.row b o hb
    obtain ⟨e, he⟩ := h.has _ _ h2 rfl
    exact ⟨e, hs.back h b e he⟩
  · obtain ⟨vs, opn, rw', rfl, h2, h3⟩ := hs.row b o hb
    obtain ⟨_, hm⟩ := renM_some he
    obtain ⟨g0, g1, c, el, lo, hi, g2, g3, g4, g5⟩ := h.obj _ _ _ h2 hm
    exact ⟨g0, g1, c, el, lo, hi, g2, g3, g4.plain_to h3, fun h => by cases h⟩
  · obtain ⟨vs, opn, rw', rfl, h2, h3⟩ := hs.row b o hb
    cases ho

theorem VRs.ren' {ex : Bool} {μ1 μ' : List (Option Ent)} {r : Nat → Nat} (hr : ∀ b e, μ1[r b]? = some (some e) → μ'[b]? = some (some e)) {vs cs : List Value} (h : VRs ex μ1 (vs.map (renV r 3)) cs) : VRs ex μ' vs cs :=
  VRs.ren (fun v c => VR.ren hr 3 v c) h

/-- A quiet function. -/
theorem CallR.frameQ {P : Program} {ex : Bool} {f : FuncId} {args0 args : List Value} {σ0 σ0' σ : AHeap} {v : Value} {r : Nat → Nat} (hs : Reads σ0 r σ) (ha : args0.map (renV r 3) = args)
    (h : CallR P ex f args0 σ0 v σ0') (hv : plain v = true) : CallR P ex f args σ v σ := by
  intro B μ w cargs hr hargs
  subst ha
  refine (h (old w) _ w cargs (hs.heap hr) (hargs.ren' (hs.back hr))).mono ?_
  rintro cv w' ⟨μ', q1, q2, q3, q4⟩
  exact ⟨μ, q1.plain_ren hv, hr.below q4, Ext.refl _, ⟨q4.os, q4.tape, q4.output, q4.size, fun k hk => q4.block k (hr.hB k hk)⟩⟩

/-- A function that makes one new row (block k of the small heap) and hands it out. -/
theorem CallR.frameN {P : Program} {ex : Bool} {f : FuncId} {args0 args : List Value} {σ0 σ0' σ : AHeap} {v v0 : Value} {r q : Nat → Nat} {k : Nat} {vs : List Value} {opn : Option Nat} (hs : Reads σ0 r σ) (ha : args0.map (renV r 3) = args)
    (h : CallR P ex f args0 σ0 v0 σ0') (hk : σ0'[k]? = some (.row vs true opn)) (hp : vs.all plain = true) (hq : ∀ b, q b = if b = σ.length then k else b + σ0'.length) (hv : v0 = renV q 3 v) : CallR P ex f args σ v (σ ++ [.row vs true opn]) := by
  intro B μ w cargs hr hargs
  subst ha
  refine (h (old w) _ w cargs (hs.heap hr) (hargs.ren' (hs.back hr))).mono ?_
  rintro cv w' ⟨μ', q1, q2, q3, q4⟩
  obtain ⟨e, he⟩ := q2.has k _ hk rfl
  have hob := q2.obj k _ e hk he
  have hsz : w.heap.size ≤ e.cb := by
    obtain ⟨_, _, c, el, lo, hi, _, _, _, g5⟩ := hob
    have := (g5 rfl).1
    unfold old at this
    omega
  have hbel : Blw B w w' := ⟨q4.os, q4.tape, q4.output, q4.size, fun k hk => q4.block k (hr.hB k hk)⟩
  have hr' := hr.below q4
  have hnew : ∀ b (e' : Ent), (μ ++ [some e])[b]? = some (some e') → (b < μ.length ∧ μ[b]? = some (some e')) ∨ (b = μ.length ∧ e' = e) := by
    intro b e' hb
    rcases Nat.lt_or_ge b μ.length with h' | h'
    · left; rw [List.getElem?_append_left h'] at hb; exact ⟨h', hb⟩
    · right
      rw [List.getElem?_append_right h'] at hb
      have hlt := lt_of_some hb
      simp only [List.length_singleton] at hlt
      have h0 : b - μ.length = 0 := by omega
      rw [h0] at hb
      simp only [List.getElem?_cons_zero, Option.some.injEq] at hb
      exact ⟨by omega, hb.symm⟩
  have hobj : ∀ b o, (σ ++ [AObj.row vs true opn])[b]? = some o → (b < σ.length ∧ σ[b]? = some o) ∨ (b = σ.length ∧ o = .row vs true opn) := by
    intro b o hb
    rcases Nat.lt_or_ge b σ.length with h' | h'
    · left; rw [List.getElem?_append_left h'] at hb; exact ⟨h', hb⟩
    · right
      rw [List.getElem?_append_right h'] at hb
      have hlt := lt_of_some hb
      simp only [List.length_singleton] at hlt
      have h0 : b - σ.length = 0 := by omega
      rw [h0] at hb
      simp only [List.getElem?_cons_zero, Option.some.injEq] at hb
      exact ⟨by omega, hb.symm⟩
  have hl := hr.len
  have old : ∀ (b : Nat) (o : AObj) (e' : Ent), σ[b]? = some o → μ[b]? = some (some e') → o.live = true → e'.cb < w.heap.size := fun b o e' h1 h2 h3 => (hr.obj b o e' h1 h2).lt h3
  refine ⟨μ ++ [some e], ?_, ⟨by simp [hl], fun k hk => by have := q4.size; have := hr.hB k hk; omega, fun b o hb hlv => ?_, fun b o e' hb he' => ?_, fun b b' o o' e1 e2 hb hb' he1 he2 ho hlv hc => ?_⟩, Ext.snoc _ _, hbel⟩
  · rw [hv] at q1
    refine VR.ren (r := q) (fun b e' hb => ?_) 3 _ _ q1
    rw [hq] at hb
    split at hb
    · rename_i h1
      rw [he] at hb
      cases hb
      rw [List.getElem?_append_right (by omega), h1, ← hl]
      simp
    · have := lt_of_some hb
      have := q2.len
      omega
  · rcases hobj b o hb with ⟨h1, h2⟩ | ⟨h1, rfl⟩
    · obtain ⟨e', he'⟩ := hr.has b o h2 hlv
      exact ⟨e', by rw [List.getElem?_append_left (by omega)]; exact he'⟩
    · exact ⟨e, by rw [List.getElem?_append_right (by omega), h1, ← hl]; simp⟩
  · rcases hobj b o hb with ⟨h1, h2⟩ | ⟨h1, rfl⟩
    · rcases hnew b e' he' with ⟨g1, g2⟩ | ⟨g1, g2⟩
      · refine (hr'.obj b o e' h2 g2).mono (Sub.snoc _ _) (fun _ => rfl)
      · omega
    · rcases hnew b e' he' with ⟨g1, g2⟩ | ⟨g1, rfl⟩
      · omega
      · obtain ⟨g0, g1', c, el, lo, hi, g2, g3, g4, g5⟩ := hob
        exact ⟨g0, g1', c, el, lo, hi, g2, g3, g4.plain_to hp, fun h => ⟨fun hk => by have := hr.hB _ hk; omega, (g5 h).2⟩⟩
  · rcases hobj b o hb with ⟨h1, h2⟩ | ⟨h1, rfl⟩
    · rcases hnew b e1 he1 with ⟨g1, g2⟩ | ⟨g1, g2⟩
      · rcases hobj b' o' hb' with ⟨h1', h2'⟩ | ⟨h1', rfl⟩
        · rcases hnew b' e2 he2 with ⟨g1', g2'⟩ | ⟨g1', g2'⟩
          · exact hr.inj b b' o o' e1 e2 h2 h2' g2 g2' ho hlv hc
          · omega
        · rcases hnew b' e2 he2 with ⟨g1', g2'⟩ | ⟨g1', rfl⟩
          · omega
          · have := old b o e1 h2 g2 (by cases o <;> first | rfl | cases ho)
            omega
      · omega
    · rcases hnew b e1 he1 with ⟨g1, g2⟩ | ⟨g1, rfl⟩
      · omega
      · rcases hobj b' o' hb' with ⟨h1', h2'⟩ | ⟨h1', rfl⟩
        · rcases hnew b' e2 he2 with ⟨g1', g2'⟩ | ⟨g1', g2'⟩
          · have := old b' o' e2 h2' g2' hlv
            omega
          · omega
        · omega
end Go.Lk
end

section
/- Loops: their bodies, their rounds; rows as functions. -/
namespace Go.Lk
set_option linter.unusedSimpArgs false
set_option linter.unusedVariables false

def loopsOf : Code → List Code
  | .loop b => b :: loopsOf b
  | .seq a b => loopsOf a ++ loopsOf b
  | .cond _ x y => loopsOf x ++ loopsOf y
  | .block _ b | .scope b => loopsOf b
  | _ => []
/-- The body of loop k of a function (in the text's order). -/
def loopOf (fn : Func) (k : Nat) : Code := match fn.body with | some b => (loopsOf b).getD k .skip | none => .skip
def regsOf : Code → List (Nat × Code)
  | .region i ops d => [(i, .region i ops d)]
  | .seq a b => regsOf a ++ regsOf b
  | .cond _ x y => regsOf x ++ regsOf y
  | .block _ b | .loop b | .scope b => regsOf b
  | _ => []
def regOf (fn : Func) (i : Nat) : Code := match fn.body with | some b => (look (regsOf b) i).getD .skip | none => .skip
def regOps : Code → Array Oper
  | .region _ ops _ => ops
  | _ => #[]

/-! ### Rows as functions -/
def rowOf (f : Nat → List Value) (n : Nat) : List Value := (List.range n).flatMap f
theorem rowOf_len {f : Nat → List Value} {s : Nat} (hf : ∀ i, (f i).length = s) : ∀ n, (rowOf f n).length = n * s := by
  intro n
  unfold rowOf
  induction n with
  | zero => simp
  | succ n ih => rw [List.range_succ, List.flatMap_append, List.length_append, ih]; simp [hf, Nat.succ_mul]
theorem rowOf_succ (f : Nat → List Value) (n : Nat) : rowOf f (n + 1) = rowOf f n ++ f n := by
  unfold rowOf; rw [List.range_succ, List.flatMap_append]; simp
theorem rowOf_at {f : Nat → List Value} {s : Nat} (hf : ∀ i, (f i).length = s) {k : Nat} : ∀ {n : Nat}, k < n → ((rowOf f n).drop (k * s)).take s = f k := by
  intro n
  induction n with
  | zero => intro h; omega
  | succ n ih =>
    intro h
    rw [rowOf_succ]
    have hl := rowOf_len hf n
    rcases Nat.lt_or_eq_of_le (Nat.le_of_lt_succ h) with h' | h'
    · have h1 : k * s + s ≤ n * s := by
        have := Nat.mul_le_mul_right s (show k + 1 ≤ n from h')
        rw [Nat.succ_mul] at this; exact this
      rw [List.drop_append_of_le_length (by omega), List.take_append_of_le_length (by rw [List.length_drop]; omega)]
      exact ih h'
    · subst h'
      rw [List.drop_append, hl, Nat.sub_self, List.drop_of_length_le (by omega)]
      simp only [List.drop_zero, List.nil_append]
      exact List.take_of_length_le (by rw [hf]; exact Nat.le_refl _)

/-- A sum of integers that stays in bounds. -/
def wF (k : IntKind) (e : Int) (σ : AHeap) : Option (Value × AHeap) := some (.int k (k.wrap e), σ)
theorem i64_wrap {e : Int} (h : -9223372036854775808 ≤ e ∧ e ≤ 9223372036854775807) : IntKind.i64.wrap e = e := by
  unfold IntKind.wrap
  simp [IntKind.bits, IntKind.signed]
  omega
theorem wF_ok {e e' : Int} (σ : AHeap) (h : -9223372036854775808 ≤ e ∧ e ≤ 9223372036854775807) (he : e = e') : wF .i64 e σ = some (.int .i64 e', σ) := by
  unfold wF; rw [i64_wrap h, he]
/-- An element's address. -/
def ixF (V : Value) (σ : AHeap) (n : Int) (len : Nat) : Option (Value × AHeap) :=
  match (if 0 ≤ n ∧ n < (len : Int) then some V else none : Option Value) with
  | some v => some (v, σ)
  | none => none
theorem ixF_ok (V : Value) (σ : AHeap) {n : Int} {len : Nat} (h : 0 ≤ n ∧ n < (len : Int)) : ixF V σ n len = some (V, σ) := by unfold ixF; rw [if_pos h]
/-- A load. -/
def ldF (o : Option Value) (σ : AHeap) : Option (Value × AHeap) :=
  match o with
  | some v => some (v, σ)
  | none => none
theorem ldF_ok {o : Option Value} {v : Value} {σ : AHeap} (h : o = some v) : ldF o σ = some (v, σ) := by rw [h]; rfl
theorem load_agg {P : Program} {σ : AHeap} {t : TypeId} {b s off k n : Nat} {f : Nat → List Value} {rw' : Bool} {opn : Option Nat} (hσ : σ[b]? = some (.row (rowOf f n) rw' opn)) (hd : (P.underlying t).map isAggD = some true)
    (hs : tSize P t = some s) (hf : ∀ i, (f i).length = s) (ho : off = k * s) (hk : k < n) : aLoad P σ t (.pointer (some ⟨b, off, none⟩)) = some (.agg (f k).toArray) := by
  cases hu : P.underlying t with
  | none => rw [hu] at hd; cases hd
  | some d =>
  rw [hu] at hd
  have hd : isAggD d = true := by simpa using hd
  unfold aLoad
  simp only [hσ, hu, hd, hs, cond_true]
  have hl := rowOf_len hf n
  have h1 : k * s + s ≤ n * s := by
    have := Nat.mul_le_mul_right s (show k + 1 ≤ n from hk)
    rw [Nat.succ_mul] at this; exact this
  rw [if_pos (by omega), ho, rowOf_at hf hk]
theorem load_one {P : Program} {σ : AHeap} {t : TypeId} {b off k n : Nat} {g : Nat → Value} {rw' : Bool} {opn : Option Nat} (hσ : σ[b]? = some (.row (rowOf (fun i => [g i]) n) rw' opn)) (hd : (P.underlying t).map isAggD = some false)
    (ho : off = k) (hk : k < n) : aLoad P σ t (.pointer (some ⟨b, off, none⟩)) = some (g k) := by
  cases hu : P.underlying t with
  | none => rw [hu] at hd; cases hd
  | some d =>
  rw [hu] at hd
  have hd : isAggD d = false := by simpa using hd
  unfold aLoad
  simp only [hσ, hu, hd, cond_false]
  have h := rowOf_at (f := fun i => [g i]) (s := 1) (fun i => rfl) (k := k) hk
  rw [Nat.mul_one] at h
  have h2 := congrArg (fun l => l[0]?) h
  simp only [List.getElem?_take, List.getElem?_drop] at h2
  rw [ho]
  simpa using h2

/-! ### What is kept of a round -/
/-- No names from m on. -/
def named0 (m : Nat) : Value → Bool
  | .pointer (some ⟨b, _, _⟩) => Nat.blt b m
  | .slice (some ⟨b, _, _⟩) _ _ => Nat.blt b m
  | v => flat0 v
theorem named0_inert {m : Nat} {v : Value} {r : Nat → Nat} (hr : ∀ b, b < m → r b = b) (h : named0 m v = true) (d : Nat) : renV r d v = v := by
  unfold named0 at h
  split at h
  · rename_i b o s
    have := hr b (by simpa [Nat.blt_eq] using h)
    cases d <;> simp only [renV, this]
  · rename_i b o s l c
    have := hr b (by simpa [Nat.blt_eq] using h)
    cases d <;> simp only [renV, this]
  · exact flat0_inert h d r
theorem namedL_inert {m : Nat} {r : Nat → Nat} (hr : ∀ b, b < m → r b = b) (d : Nat) : ∀ {cs : List Value}, cs.all (named0 m) = true → cs.map (renV r d) = cs
  | [], _ => rfl
  | c :: cs, h => by
    rw [List.all_cons, Bool.and_eq_true] at h
    rw [List.map_cons, named0_inert hr h.1, namedL_inert hr d h.2]
def maskF : List Bool → List Value → List Value
  | b :: bs, v :: vs => (bif b then v else undef) :: maskF bs vs
  | _, vs => vs.map fun _ => undef
/-- The end of a stretch, its blocks renamed; the first n0 keep their names. -/
theorem Sim.embN {C : Cfg} {c : Code} {fr fr1 fr' : List Value} {σ0 σ σ1 σ' : AHeap} {e : Exit} {r : Nat → Nat} {n0 : Nat} (h : Sim C n0 c fr σ e fr1 σ1) (hs : Stood C.ex σ0) (hn : n0 ≤ σ.length) (hn' : n0 ≤ σ'.length) (hfix : ∀ b, b < n0 → r b = b) (he : Emb σ0 r σ' σ1) (hf : FrEmb r fr' fr1) :
    Sim C n0 c fr σ e fr' σ' := by
  intro B μ tmps defers w Q hf0 hr hQ
  refine h B μ tmps defers w Q hf0 hr ?_
  intro μ1 tmps' w' q1 q2 q3 q4
  have hback := he.back q2
  refine hQ (renM μ1 r σ'.length) tmps' w' ⟨by rw [hf.len]; exact q1.1, fun i a ha => ?_⟩ (he.heap q2 hs) (fun b hb => ?_) q4
  · have hlt := lt_of_some ha
    rcases hf.get i a ha with hu | hb
    · obtain ⟨c, hc⟩ : ∃ c, tmps'[i]? = some c := ⟨_, Array.getElem?_eq_getElem (by rw [← q1.1, ← hf.len]; exact hlt)⟩
      exact ⟨c, hc, .inl hu⟩
    · obtain ⟨c, hc, hv⟩ := q1.2 i _ hb
      refine ⟨c, hc, ?_⟩
      rcases hv with hu | hv
      · exact .inl (isU_ren hu)
      · exact .inr (VR.ren hback 3 _ _ hv)
  · have hlt : b < μ.length := by rw [hr.len]; omega
    rw [renM_get (by omega), hfix b hb, q3 b hb, List.getElem?_eq_getElem hlt]
    rfl

/-- A frame that is known better. -/
theorem Sim.enter {C : Cfg} {c : Code} {fr fr0 fr1 : List Value} {σ σ1 : AHeap} {e : Exit} {n0 : Nat} (h : Sim C n0 c fr σ e fr1 σ1) (mask : List Bool) (hm : maskF mask fr0 = fr) : Sim C n0 c fr0 σ e fr1 σ1 := by
  subst hm
  intro B μ tmps defers w Q hf0 hr hQ
  refine h B μ tmps defers w Q ?_ hr hQ
  have hl : ∀ (bs : List Bool) (vs : List Value), (maskF bs vs).length = vs.length := by
    intro bs
    induction bs with
    | nil => intro vs; cases vs <;> simp [maskF]
    | cons b bs ih => intro vs; cases vs with
      | nil => simp [maskF]
      | cons v vs => simp [maskF, ih]
  have hg : ∀ (bs : List Bool) (vs : List Value) (i : Nat) (a : Value), (maskF bs vs)[i]? = some a → isU a = true ∨ vs[i]? = some a := by
    intro bs
    induction bs with
    | nil =>
      intro vs i a h
      left
      have : maskF [] vs = vs.map fun _ => undef := by cases vs <;> rfl
      rw [this, List.getElem?_map] at h
      cases hv : vs[i]? with
      | none => rw [hv] at h; cases h
      | some v => rw [hv] at h; cases h; rfl
    | cons b bs ih =>
      intro vs i a h
      cases vs with
      | nil => simp [maskF] at h
      | cons v vs =>
        cases i with
        | zero =>
          simp only [maskF, List.getElem?_cons_zero, Option.some.injEq] at h
          cases b
          · left; rw [← h]; rfl
          · right; rw [← h]; rfl
        | succ i =>
          simp only [maskF, List.getElem?_cons_succ] at h ⊢
          exact ih vs i a h
  refine ⟨by rw [hl]; exact hf0.1, fun i a ha => ?_⟩
  rcases hg mask fr0 i a ha with hu | hb
  · have hlt := lt_of_some ha
    rw [hl] at hlt
    exact ⟨_, Array.getElem?_eq_getElem (by rw [← hf0.1]; exact hlt), .inl hu⟩
  · exact hf0.2 i a hb

theorem CallR.of_DOXs {C : Cfg} (hC : C.Ok) {X : List Nat} {f : FuncId} {fn : Func} {args : List Value} {σ σ1 : AHeap} {v : Value} {n : Nat} {orc : Orc} {ps : List Prop}
    (hf : C.P.funcs[f]? = some fn) (hok : fnOkX C X fn = true) (h : DOfnX C X n fn args σ orc = some (ps, v, σ1)) (hp : Stood C.ex σ → All ps) : CallR C.P C.ex f args σ v σ1 :=
  fun B μ w cargs hr hargs => CallR.of_DOX hC hf hok h (hp ⟨B, μ, w, hr⟩) B μ w cargs hr hargs
theorem Sim.cast {C : Cfg} {c : Code} {fr fr' fr1 fr1' : List Value} {σ σ' σ1 σ1' : AHeap} {e : Exit} {n0 : Nat} (h : Sim C n0 c fr σ e fr1 σ1) (e1 : fr = fr') (e2 : σ = σ') (e3 : fr1 = fr1') (e4 : σ1 = σ1') : Sim C n0 c fr' σ' e fr1' σ1' := by
  subst e1 e2 e3 e4; exact h

end Go.Lk
end

section
/- Rounds that grow rows, write rows: what they keep. -/
namespace Go.Lk
set_option linter.unusedSimpArgs false
set_option linter.unusedVariables false

/-! ### Rows as functions: more -/
theorem rowOf_all {f : Nat → List Value} {p : Value → Bool} (h : ∀ i, (f i).all p = true) : ∀ n, (rowOf f n).all p = true := by
  intro n
  induction n with
  | zero => rfl
  | succ n ih => rw [rowOf_succ, List.all_append, ih, h]; rfl
theorem rowOf_congr {f g : Nat → List Value} : ∀ {n : Nat}, (∀ i, i < n → f i = g i) → rowOf f n = rowOf g n := by
  intro n
  induction n with
  | zero => intro _; rfl
  | succ n ih => intro h; rw [rowOf_succ, rowOf_succ, ih (fun i hi => h i (by omega)), h n (by omega)]
theorem rowOf_zero (f : Nat → List Value) : rowOf f 0 = [] := rfl
theorem rowOf_take {f : Nat → List Value} {s : Nat} (hf : ∀ i, (f i).length = s) : ∀ {n m : Nat}, m ≤ n → (rowOf f n).take (m * s) = rowOf f m := by
  intro n
  induction n with
  | zero => intro m h; have : m = 0 := by omega
            subst this; simp [rowOf_zero]
  | succ n ih =>
    intro m h
    rw [rowOf_succ]
    have hl := rowOf_len hf n
    rcases Nat.lt_or_eq_of_le h with h' | h'
    · have h1 : m * s ≤ n * s := Nat.mul_le_mul_right s (by omega)
      rw [List.take_append_of_le_length (by omega)]
      exact ih (by omega)
    · subst h'
      rw [← rowOf_succ]
      exact List.take_of_length_le (by rw [rowOf_len hf]; exact Nat.le_refl _)
theorem rowOf_splice {f g : Nat → List Value} {s : Nat} (hf : ∀ i, (f i).length = s) (hg : ∀ i, (g i).length = s) {k n : Nat} (hk : k < n) (hne : ∀ i, i ≠ k → g i = f i) : splice (rowOf f n) (k * s) (g k) = rowOf g n := by
  have hlf := rowOf_len hf n
  have hlg := rowOf_len hg n
  have hgk := hg k
  have hks : k * s + s ≤ n * s := by
    have := Nat.mul_le_mul_right s (show k + 1 ≤ n from hk)
    rw [Nat.succ_mul] at this; exact this
  unfold splice
  have e1 : rowOf g n = (rowOf g n).take (k * s) ++ ((rowOf g n).drop (k * s)).take s ++ (rowOf g n).drop (k * s + s) := by
    rw [List.append_assoc]
    conv => lhs; rw [← List.take_append_drop (k * s) (rowOf g n)]
    congr 1
    conv => lhs; rw [← List.take_append_drop s ((rowOf g n).drop (k * s))]
    rw [List.drop_drop]
  rw [e1, rowOf_at hg hk, rowOf_take hg (by omega), rowOf_take hf (by omega), hgk]
  congr 1
  · congr 1
    exact rowOf_congr fun i hi => (hne i (by omega)).symm
  · apply List.ext_getElem?
    intro j
    rw [List.getElem?_drop, List.getElem?_drop]
    rcases Nat.eq_zero_or_pos s with h0 | hs
    · rw [List.getElem?_eq_none (by rw [hlf, h0]; simp), List.getElem?_eq_none (by rw [hlg, h0]; simp)]
    · rcases Nat.lt_or_ge (k * s + s + j) (n * s) with hj | hj
      · have hq : (k * s + s + j) / s < n := (Nat.div_lt_iff_lt_mul hs).2 hj
        have hm := Nat.mod_lt (k * s + s + j) hs
        have hd := Nat.div_add_mod (k * s + s + j) s
        have hkq : k < (k * s + s + j) / s := by
          rw [Nat.lt_iff_add_one_le, Nat.le_div_iff_mul_le hs, Nat.succ_mul]
          omega
        have r1 : (rowOf f n)[(k * s + s + j) / s * s + (k * s + s + j) % s]? = (f ((k * s + s + j) / s))[(k * s + s + j) % s]? := by
          have h2 := congrArg (fun l => l[(k * s + s + j) % s]?) (rowOf_at hf hq)
          simp only [List.getElem?_take, List.getElem?_drop, hm, if_true] at h2
          exact h2
        have r2 : (rowOf g n)[(k * s + s + j) / s * s + (k * s + s + j) % s]? = (g ((k * s + s + j) / s))[(k * s + s + j) % s]? := by
          have h2 := congrArg (fun l => l[(k * s + s + j) % s]?) (rowOf_at hg hq)
          simp only [List.getElem?_take, List.getElem?_drop, hm, if_true] at h2
          exact h2
        rw [Nat.mul_comm _ s, hd] at r1 r2
        rw [r1, r2, hne _ (by omega)]
      · rw [List.getElem?_eq_none (by omega), List.getElem?_eq_none (by omega)]
theorem zrow_rowOf (z : List Value) (hz : z ≠ []) (n : Nat) : zrow z (n * z.length) = rowOf (fun _ => z) n := by
  have hl := rowOf_len (f := fun _ => z) (s := z.length) (fun _ => rfl) n
  have hs : 0 < z.length := List.length_pos_iff.2 hz
  apply List.ext_getElem?
  intro j
  unfold zrow
  rw [List.getElem?_map]
  rcases Nat.lt_or_ge j (n * z.length) with hj | hj
  · rw [List.getElem?_range hj]
    have hq : j / z.length < n := (Nat.div_lt_iff_lt_mul hs).2 hj
    have hm := Nat.mod_lt j hs
    have hd := Nat.div_add_mod j z.length
    have h2 := congrArg (fun l => l[j % z.length]?) (rowOf_at (f := fun _ => z) (s := z.length) (fun _ => rfl) hq)
    simp only [List.getElem?_take, List.getElem?_drop, hm, if_true] at h2
    rw [Nat.mul_comm _ z.length, hd] at h2
    rw [h2]
    simp [List.getD_eq_getElem?_getD, hm]
  · rw [List.getElem?_eq_none (l := List.range (n * z.length)) (by simpa using hj), List.getElem?_eq_none (by omega)]
    rfl

/-! ### What is kept, under other names -/
def rOf (ks : List Nat) (big : Nat) (b : Nat) : Nat := match ks[b]? with | some x => x | none => b + big
def pickH (ks : List Nat) (σ : AHeap) : AHeap := ks.map fun k => σ.getD k .dead
def plainO : AObj → Prop
  | .row vs _ _ => vs.all plain = true
  | _ => True
theorem plainO.ren {r : Nat → Nat} {o : AObj} (h : plainO o) : renO r o = o := by
  cases o with
  | row vs rw' opn =>
    simp only [renO]
    congr 1
    have key : ∀ l : List Value, l.all plain = true → l.map (renV r 3) = l := by
      intro l
      induction l with
      | nil => intro _; rfl
      | cons v l ih =>
        intro h
        rw [List.all_cons, Bool.and_eq_true] at h
        rw [List.map_cons, plain_inert h.1, ih h.2]
    exact key vs h
  | dead => rfl
  | iter s p => rfl

theorem emb_of_map {r : Nat → Nat} : ∀ (mask : List Bool) (fr1 fr' : List Value), maskF mask fr1 = fr'.map (renV r 3) → FrEmb r fr' fr1
  | _, [], [], _ => trivial
  | mask, [], b :: bs, h => by cases mask <;> simp [maskF] at h
  | mask, a :: as, [], h => by cases mask <;> simp [maskF] at h
  | [], a :: as, b :: bs, h => by
    simp only [maskF, List.map_cons, List.cons.injEq] at h
    have hm : maskF [] as = as.map fun _ => undef := by cases as <;> rfl
    refine ⟨.inl (isU_ren (by rw [← h.1]; rfl)), emb_of_map [] as bs (by rw [hm]; exact h.2)⟩
  | m :: ms, a :: as, b :: bs, h => by
    simp only [maskF, List.map_cons, List.cons.injEq] at h
    refine ⟨?_, emb_of_map ms as bs h.2⟩
    cases m
    · left; exact isU_ren (by rw [← h.1]; rfl)
    · right; exact h.1

theorem Sim.keepR {C : Cfg} {c : Code} {fr fr1 fr' : List Value} {σ0 σ σ1 σ' : AHeap} {e : Exit} {n0 : Nat} (h : Sim C n0 c fr σ e fr1 σ1) (hs : Stood C.ex σ0) (hn : n0 ≤ σ.length) (ks : List Nat) (mask : List Bool)
    (hn0 : ks.take n0 = List.range n0) (hk0 : ks.take σ0.length = List.range σ0.length) (hlt : ks.all (fun k => Nat.blt k σ1.length) = true) (hnd : ks.Nodup) (hσ : pickH ks σ1 = σ') (hfix : σ'.take σ0.length = σ0)
    (hp : ∀ b o, σ0.length ≤ b → σ'[b]? = some o → plainO o) (hf : maskF mask fr1 = fr'.map (renV (rOf ks σ1.length) 3)) : Sim C n0 c fr σ e fr' σ' := by
  have hlen : σ'.length = ks.length := by rw [← hσ]; simp [pickH]
  have hget : ∀ (b k : Nat), ks[b]? = some k → σ'[b]? = some (σ1.getD k .dead) ∧ k < σ1.length := by
    intro b k hb
    refine ⟨by rw [← hσ]; simp [pickH, hb], ?_⟩
    have := List.all_eq_true.1 hlt k (List.mem_of_getElem? hb)
    simpa [Nat.blt_eq] using this
  have hfixr : ∀ (m : Nat), ks.take m = List.range m → ∀ b, b < m → rOf ks σ1.length b = b ∧ b < ks.length := by
    intro m hm b hb
    have h1 : (ks.take m)[b]? = some b := by rw [hm, List.getElem?_range hb]
    rw [List.getElem?_take, if_pos hb] at h1
    exact ⟨by unfold rOf; rw [h1], lt_of_some h1⟩
  have hn0l : n0 ≤ ks.length := by
    rcases Nat.eq_zero_or_pos n0 with h0 | h0
    · omega
    · have := (hfixr n0 hn0 (n0 - 1) (by omega)).2; omega
  have hk0l : σ0.length ≤ ks.length := by
    rcases Nat.eq_zero_or_pos σ0.length with h0 | h0
    · omega
    · have := (hfixr _ hk0 (σ0.length - 1) (by omega)).2; omega
  refine h.embN (r := rOf ks σ1.length) hs hn (by omega) (fun b hb => (hfixr n0 hn0 b hb).1) ⟨by omega, fun b hb => ?_, fun b hb => (hfixr _ hk0 b hb).1, fun b b' o o' hb hb' _ _ e => ?_, fun b o hb hl => ?_⟩ (emb_of_map mask fr1 fr' hf)
  · unfold rOf
    rw [List.getElem?_eq_none (by omega)]
    simp only; omega
  · have h1 := lt_of_some hb
    have h2 := lt_of_some hb'
    obtain ⟨k, hk⟩ : ∃ k, ks[b]? = some k := ⟨_, List.getElem?_eq_getElem (by omega)⟩
    obtain ⟨k', hk'⟩ : ∃ k, ks[b']? = some k := ⟨_, List.getElem?_eq_getElem (by omega)⟩
    unfold rOf at e
    rw [hk, hk'] at e
    simp only at e
    subst e
    exact (List.getElem?_inj (lt_of_some hk) hnd).1 (hk.trans hk'.symm)
  · have h1 := lt_of_some hb
    obtain ⟨k, hk⟩ : ∃ k, ks[b]? = some k := ⟨_, List.getElem?_eq_getElem (by omega)⟩
    obtain ⟨g1, g2⟩ := hget b k hk
    rw [hb] at g1
    have hk1 : σ1[k]? = some o := by
      cases g1
      rw [List.getD_eq_getElem?_getD, List.getElem?_eq_getElem g2]
      rfl
    rcases Nat.lt_or_ge b σ0.length with h' | h'
    · left
      refine ⟨h', by rw [← hfix, List.getElem?_take, if_pos h']; exact hb, ?_⟩
      have := (hfixr _ hk0 b h').1
      unfold rOf at this
      rw [hk] at this
      simp only at this
      rw [← this]; exact hk1
    · right
      have : rOf ks σ1.length b = k := by unfold rOf; rw [hk]
      rw [this, (hp b o h' hb).ren]
      exact hk1
end Go.Lk
end

section
/- append, make and stores on rows that are told by functions. -/
namespace Go.Lk
set_option linter.unusedSimpArgs false
set_option linter.unusedVariables false

/-! ### append -/
/-- What the types must be: elements of z cells, not too many bytes. -/
def appOk (P : Program) (t t2 : TypeId) (z : Nat) : Bool :=
  match P.underlying t, P.underlying t2 with
  | some (.slice e), some d2 =>
    !isIntD d2 && (match P.info? e with
      | some inf => inf.size == z && Nat.ble inf.bytes 1048576 && (match tZero P e with | some zz => zz.cells.size == inf.size | none => false)
      | none => false)
  | _, _ => false

/-- The cells of a slice that a function tells. -/
theorem cells_row {σ : AHeap} {b z n m cap : Nat} {F : Nat → List Value} {rw' : Bool} {opn : Option Nat} (hσ : σ[b]? = some (.row (rowOf F m) rw' opn)) (hf : ∀ i, (F i).length = z) (hn : n ≤ m) (z' : Nat) :
    aCells σ z n (.slice (some ⟨b, 0, some z'⟩) n cap) = some (rowOf F n) := by
  have hl := rowOf_len hf m
  have hln := rowOf_len hf n
  have : n * z ≤ m * z := Nat.mul_le_mul_right z hn
  simp only [aCells, hσ]
  by_cases h0 : n * z = 0
  · rw [if_pos h0]
    congr 1
    exact (List.length_eq_zero_iff.1 (by rw [hln]; exact h0)).symm
  · rw [if_neg h0, if_pos ⟨Nat.le_refl _, by omega⟩, List.drop_zero, rowOf_take hf hn]

theorem append_grow {P : Program} {σ : AHeap} {t t2 : TypeId} {ts : List TypeId} {rest : List Value} {b N cap z : Nat} {F : Nat → List Value} {x : Value} {rw' : Bool} {opn : Option Nat}
    (hok : appOk P t t2 z = true) (hσ : σ[b]? = some (.row (rowOf F N) rw' opn)) (hrw : rw' = true ∨ opn = none) (hx : aCells σ z 1 x = some (F N)) (hlx : sLen x = some 1)
    (hf : ∀ i, (F i).length = z) (hone : (F N).all one = true) (hN : N < 67108864) (hcap : cap = N) :
    aAppend P σ (t :: t2 :: ts) (.slice (some ⟨b, 0, some z⟩) N cap :: x :: rest) = some (.slice (some ⟨σ.length, 0, some z⟩) (N + 1) (N + 1), kill σ b ++ [.row (rowOf F (N + 1)) true (some z)]) := by
  subst hcap
  unfold appOk at hok
  unfold aAppend
  cases h1 : P.underlying t with
  | none => rw [h1] at hok; cases hok
  | some d1 =>
  rw [h1] at hok
  cases h2 : P.underlying t2 with
  | none => rw [h2] at hok; cases d1 <;> cases hok
  | some d2 =>
  rw [h2] at hok
  cases d1 with
  | slice e =>
    simp only [Bool.and_eq_true, Bool.not_eq_true'] at hok
    obtain ⟨hi, hok⟩ := hok
    cases h3 : P.info? e with
    | none => rw [h3] at hok; cases hok
    | some inf =>
      rw [h3] at hok
      simp only [Bool.and_eq_true, beq_iff_eq] at hok
      obtain ⟨⟨hsz, hby⟩, hzz⟩ := hok
      have hby' := Nat.le_of_ble_eq_true hby
      simp only [h1, h2, h3, hlx, hi, cond_false, hsz, hx]
      rw [if_neg (by omega)]
      have hold : aCells σ z cap (.slice (some ⟨b, 0, some z⟩) cap cap) = some (rowOf F cap) := cells_row hσ hf (Nat.le_refl _) z
      rw [hold]
      simp only
      have hb2 : (cap + 1) * inf.bytes ≤ 70368744177664 := by
        have h4 : (cap + 1) * inf.bytes ≤ 67108864 * 1048576 := Nat.mul_le_mul (by omega) hby'
        omega
      rw [if_pos ⟨hb2, hby', by omega, hone⟩]
      cases h5 : tZero P e with
      | none => rw [h5] at hzz; cases hzz
      | some zz =>
        rw [h5] at hzz
        have hzz : zz.cells.size = inf.size := by simpa using hzz
        have hne : ¬ zz.cells.size ≠ z := by omega
        simp only [h5, hne, if_false, hσ, true_and, Nat.le_refl, if_true, hrw]
        rw [rowOf_succ]
  | _ => cases hok

/-- The first element. -/
theorem append_first {P : Program} {σ : AHeap} {t t2 : TypeId} {ts : List TypeId} {rest : List Value} {z : Nat} {F : Nat → List Value} {x : Value} {n : Nat}
    (hok : appOk P t t2 z = true) (hx : aCells σ z n x = some (rowOf F n)) (hlx : sLen x = some n) (hone : (rowOf F n).all one = true) (hn : 0 < n) (hN : n < 67108864) :
    aAppend P σ (t :: t2 :: ts) (.slice none 0 0 :: x :: rest) = some (.slice (some ⟨σ.length, 0, some z⟩) n n, σ ++ [.row (rowOf F n) true (some z)]) := by
  unfold appOk at hok
  unfold aAppend
  cases h1 : P.underlying t with
  | none => rw [h1] at hok; cases hok
  | some d1 =>
  rw [h1] at hok
  cases h2 : P.underlying t2 with
  | none => rw [h2] at hok; cases d1 <;> cases hok
  | some d2 =>
  rw [h2] at hok
  cases d1 with
  | slice e =>
    simp only [Bool.and_eq_true, Bool.not_eq_true'] at hok
    obtain ⟨hi, hok⟩ := hok
    cases h3 : P.info? e with
    | none => rw [h3] at hok; cases hok
    | some inf =>
      rw [h3] at hok
      simp only [Bool.and_eq_true, beq_iff_eq] at hok
      obtain ⟨⟨hsz, hby⟩, hzz⟩ := hok
      have hby' := Nat.le_of_ble_eq_true hby
      simp only [h1, h2, h3, hlx, hi, cond_false, hsz, hx, Nat.zero_add]
      rw [if_neg (by omega)]
      have hold : aCells σ z 0 (.slice none 0 0) = some [] := by
        unfold aCells; simp
      rw [hold]
      simp only
      have hb2 : n * inf.bytes ≤ 70368744177664 := by
        have h4 : n * inf.bytes ≤ 67108864 * 1048576 := Nat.mul_le_mul (by omega) hby'
        omega
      rw [if_pos ⟨hb2, hby', by omega, hone⟩]
      cases h5 : tZero P e with
      | none => rw [h5] at hzz; cases hzz
      | some zz =>
        rw [h5] at hzz
        have hzz : zz.cells.size = inf.size := by simpa using hzz
        have hne : ¬ zz.cells.size ≠ z := by omega
        simp only [h5, hne, if_false, List.nil_append]
  | _ => cases hok

/-! ### make -/
def mkOk (P : Program) (t : TypeId) (zs : List Value) : Bool :=
  match P.underlying t with
  | some (.slice e) =>
    match P.info? e with
    | some inf => Nat.ble inf.bytes 1048576 && inf.size == zs.length && !(inf.size == 0)
    | none => false
  | _ => false
theorem make_row {P : Program} {σ : AHeap} {t : TypeId} {zs : List Value} {k k' : IntKind} {l N : Nat} (hok : mkOk P t zs = true) (hz : (match P.underlying t with | some (.slice e) => (tZero P e).map (fun z => z.cells.toList) | _ => none) = some zs) (hone : zs.all one = true) (hl : l ≤ N) (hN : N < 67108864) :
    aMake P σ t (.int k (iN l)) (.int k' (iN N)) = some (.slice (some ⟨σ.length, 0, some zs.length⟩) l N, σ ++ [.row (rowOf (fun _ => zs) N) true none]) := by
  unfold mkOk at hok
  unfold aMake
  cases h1 : P.underlying t with
  | none => rw [h1] at hok; cases hok
  | some d1 =>
  rw [h1] at hok hz
  cases d1 with
  | slice e =>
    simp only at hok hz
    cases h3 : P.info? e with
    | none => rw [h3] at hok; cases hok
    | some inf =>
      rw [h3] at hok
      simp only [Bool.and_eq_true, beq_iff_eq, Bool.not_eq_true', beq_eq_false_iff_ne] at hok
      obtain ⟨⟨hby, hsz⟩, h0⟩ := hok
      have hby' := Nat.le_of_ble_eq_true hby
      simp only [h1, h3]
      have hb2 : (N : Int) * inf.bytes ≤ 281474976710656 := by
        have h4 : N * inf.bytes ≤ 67108864 * 1048576 := Nat.mul_le_mul (by omega) hby'
        have : ((N * inf.bytes : Nat) : Int) ≤ ((67108864 * 1048576 : Nat) : Int) := Int.ofNat_le.2 h4
        rw [Int.natCast_mul] at this
        omega
      have hcond : 0 ≤ iN l ∧ iN l ≤ iN N ∧ iN N * inf.bytes ≤ 281474976710656 ∧ iN N ≤ 281474976710656 := by
        rw [iN_eq, iN_eq]; exact ⟨by omega, by omega, hb2, by omega⟩
      have e1 : (iN l).toNat = l := rfl
      have e2 : (iN N).toNat = N := rfl
      rw [if_pos hcond]
      cases h5 : tZero P e with
      | none => rw [h5] at hz; cases hz
      | some zz =>
        rw [h5] at hz
        have hz : zz.cells.toList = zs := by simpa using hz
        have hzl : zz.cells.size = inf.size := by rw [hsz, ← hz]; simp
        simp only [h5, hz, e1, e2]
        rw [if_pos ⟨hzl, h0, hone⟩, hsz, zrow_rowOf zs (by intro h; rw [h] at hsz; exact h0 (by simpa using hsz)) N]
  | _ => cases hok

/-! ### stores -/
theorem store_row {P : Program} {σ : AHeap} {t : TypeId} {v : Value} {b z N k off : Nat} {f g : Nat → List Value} {opn : Option Nat} (hσ : σ[b]? = some (.row (rowOf f N) true opn)) (ht : tSize P t = some z) (hf : ∀ i, (f i).length = z) (hg : ∀ i, (g i).length = z)
    (hv : v.cells.toList = g k) (hone : (g k).all one = true) (ho : off = k * z) (hk : k < N) (hne : ∀ i, i ≠ k → g i = f i) :
    aStore P σ t (.pointer (some ⟨b, off, none⟩)) v = some (σ.set b (.row (rowOf g N) true opn)) := by
  unfold aStore
  simp only [hσ, ht, hv]
  have hl := rowOf_len hf N
  have h1 : k * z + z ≤ N * z := by
    have := Nat.mul_le_mul_right z (show k + 1 ≤ N from hk)
    rw [Nat.succ_mul] at this; exact this
  rw [if_pos ⟨hg k, by rw [hg k]; omega, hone⟩, ho, rowOf_splice hf hg hk hne]
/-- A row of which the first k elements are written. -/
def half2 (G Z : Nat → List Value) (k : Nat) : Nat → List Value := fun i => bif Nat.blt i k then G i else Z i
theorem half2_len {G Z : Nat → List Value} {s : Nat} (hg : ∀ i, (G i).length = s) (hz : ∀ i, (Z i).length = s) (k i : Nat) : (half2 G Z k i).length = s := by
  unfold half2; cases Nat.blt i k; exact hz i; exact hg i
theorem half2_at (G Z : Nat → List Value) (k : Nat) : half2 G Z (k + 1) k = G k := by
  unfold half2
  have : Nat.blt k (k + 1) = true := by rw [Nat.blt_eq]; omega
  rw [this]; rfl
theorem half2_ne (G Z : Nat → List Value) (k i : Nat) (h : i ≠ k) : half2 G Z (k + 1) i = half2 G Z k i := by
  unfold half2
  have : Nat.blt i (k + 1) = Nat.blt i k := by
    rw [Bool.eq_iff_iff, Nat.blt_eq, Nat.blt_eq]; omega
  rw [this]
theorem half2_zero (G Z : Nat → List Value) (n : Nat) : rowOf (half2 G Z 0) n = rowOf Z n := rowOf_congr fun i _ => by
  unfold half2
  have : Nat.blt i 0 = false := by cases h : Nat.blt i 0; rfl; rw [Nat.blt_eq] at h; omega
  rw [this]; rfl
theorem half2_full (G Z : Nat → List Value) (n : Nat) : rowOf (half2 G Z n) n = rowOf G n := rowOf_congr fun i hi => by
  unfold half2
  have : Nat.blt i n = true := by rw [Nat.blt_eq]; exact hi
  rw [this]; rfl
theorem half2_all {G Z : Nat → List Value} {p : Value → Bool} (hg : ∀ i, (G i).all p = true) (hz : ∀ i, (Z i).all p = true) (k i : Nat) : (half2 G Z k i).all p = true := by
  unfold half2; cases Nat.blt i k; exact hz i; exact hg i
/-- A store. -/
def stF (o : Option AHeap) : Option (Value × AHeap) :=
  match o with
  | some σ => some (undef, σ)
  | none => none
theorem stF_ok {o : Option AHeap} {σ : AHeap} (h : o = some σ) : stF o = some (undef, σ) := by rw [h]; rfl

/-! ### Rounds under other names -/
def PlainL : List AObj → Prop
  | [] => True
  | o :: l => plainO o ∧ PlainL l
theorem PlainL.get : ∀ {l : List AObj}, PlainL l → ∀ (b : Nat) (o : AObj), l[b]? = some o → plainO o
  | [], _, b, o, h => by simp at h
  | x :: l, hp, 0, o, h => by simp at h; rw [← h]; exact hp.1
  | x :: l, hp, b + 1, o, h => by simp at h; exact PlainL.get hp.2 b o h
def roundQ (C : Cfg) (X : List Nat) (n : Nat) (body : Code) (orc : Orc) (ks : List Nat) (mask : List Bool) (fr : List Value) (σ : AHeap) : Option (List Prop × Exit × List Value × AHeap × Nat) :=
  match DO C X n body 0 orc fr σ with
  | some (ps, e, _, _, fr1, σ1) => bif ks.all (fun k => Nat.blt k σ1.length) then some (ps, e, maskF mask fr1, pickH ks σ1, σ1.length) else none
  | none => none
theorem Sim.of_roundQ {C : Cfg} (hC : C.Ok) {X : List Nat} {n : Nat} {body : Code} {orc : Orc} {ks : List Nat} {mask : List Bool} {fr fr' : List Value} {σ σ' σ0 : AHeap} {ps : List Prop} {e : Exit} {L : Nat} (n0 : Nat) (hok : codeOkX C X body = true)
    (h : roundQ C X n body orc ks mask fr σ = some (ps, e, fr'.map (renV (rOf ks L) 3), σ', L)) (hp : All ps) (hst : Stood C.ex σ0) (hn : Nat.ble n0 σ.length = true) (hn0 : ks.take n0 = List.range n0) (hk0 : ks.take σ0.length = List.range σ0.length) (hnd : ks.Nodup)
    (hfix : σ'.take σ0.length = σ0) (hpl : PlainL (σ'.drop σ0.length)) : Sim C n0 body fr σ e fr' σ' := by
  unfold roundQ at h
  split at h
  · rename_i ps1 e1 t1 o1 fr1 σ1 hd
    cases hb : (ks.all fun k => Nat.blt k σ1.length)
    · rw [hb] at h; cases h
    · rw [hb] at h
      simp only [cond_true, Option.some.injEq, Prod.mk.injEq] at h
      obtain ⟨h1, h2, h3, h4, h5⟩ := h
      subst h1 h2 h5
      have hn' := Nat.le_of_ble_eq_true hn
      exact Sim.keepR ((DO_sound hC X n _ _ _ _ _ hok hd hp).1.le hn') hst hn' ks mask hn0 hk0 hb hnd h4 hfix (fun b o h1 h2 => PlainL.get hpl (b - σ0.length) o (by rw [List.getElem?_drop, show σ0.length + (b - σ0.length) = b by omega]; exact h2)) h3
  · cases h
end Go.Lk
end

section
/- A function that writes into rows: what stands elsewhere is as it was. -/
namespace Go.Lk
set_option linter.unusedSimpArgs false
set_option linter.unusedVariables false

theorem Stood.none {ex : Bool} {σ : AHeap} (h : Stood ex σ) : Stood ex [] := by
  obtain ⟨B, μ, w, h⟩ := h
  exact ⟨B, [], w, rfl, h.hB, fun b o hb => by simp at hb, fun b o e hb => by simp at hb, fun b b' o o' e e' hb => by simp at hb⟩
/-- Is the small heap's block k one that may be written? -/
def wrk (σ0 : AHeap) (k : Nat) : Bool := match σ0[k]? with | some (.row _ true _) => true | _ => false
theorem wrk_of {σ0 : AHeap} {k : Nat} {vs : List Value} {opn : Option Nat} (h : σ0[k]? = some (.row vs true opn)) : wrk σ0 k = true := by unfold wrk; rw [h]
theorem wrk_row {σ0 : AHeap} {k : Nat} (h : wrk σ0 k = true) : ∃ vs opn, σ0[k]? = some (.row vs true opn) := by
  unfold wrk at h
  split at h
  · rename_i vs opn hk; exact ⟨_, _, hk⟩
  · cases h

/-- The small heap's rows are rows of the great one. -/
structure Part (σ0 : AHeap) (r : Nat → Nat) (σ : AHeap) : Prop where
  row : ∀ b o, σ0[b]? = some o → ∃ vs rw rw' opn, o = .row vs rw opn ∧ σ[r b]? = some (.row vs rw' opn) ∧ (rw = true → rw' = true) ∧ vs.all plain = true
  inj : ∀ b b', b < σ0.length → b' < σ0.length → r b = r b' → b = b'
  out : ∀ b, σ0.length ≤ b → σ.length ≤ r b

/-- What the small call must not touch. -/
def rest (B : Nat → Prop) (μ : List (Option Ent)) (σ0 : AHeap) (r : Nat → Nat) (w : World) : Nat → Prop :=
  fun c => B c ∨ (c < w.heap.size ∧ ∀ k e, wrk σ0 k = true → μ[r k]? = some (some e) → e.cb ≠ c)

theorem Part.back {ex : Bool} {B : Nat → Prop} {μ : List (Option Ent)} {σ0 σ : AHeap} {w : World} {r : Nat → Nat} (h : HR ex B μ σ w) (hs : Part σ0 r σ) : ∀ b e, μ[r b]? = some (some e) → (renM μ r σ0.length)[b]? = some (some e) := by
  intro b e hb
  refine renM_back ?_ hb
  rcases Nat.lt_or_ge b σ0.length with h' | h'
  · exact h'
  · have := hs.out b h'
    have := lt_of_some hb
    have := h.len
    omega

theorem Part.heap {ex : Bool} {B : Nat → Prop} {μ : List (Option Ent)} {σ0 σ : AHeap} {w : World} {r : Nat → Nat} (h : HR ex B μ σ w) (hs : Part σ0 r σ) : HR ex (rest B μ σ0 r w) (renM μ r σ0.length) σ0 w := by
  refine ⟨by simp [renM], fun k hk => ?_, fun b o hb hl => ?_, fun b o e hb he => ?_, fun b b' o o' e e' hb hb' he he' ho hl hc => ?_⟩
  · rcases hk with hk | hk
    · exact h.hB k hk
    · exact hk.1
  · obtain ⟨vs, rw, rw', opn, rfl, h2, h3, h4⟩ := hs.row b o hb
    obtain ⟨e, he⟩ := h.has _ _ h2 rfl
    exact ⟨e, hs.back h b e he⟩
  · obtain ⟨vs, rw, rw', opn, rfl, h2, h3, h4⟩ := hs.row b o hb
    obtain ⟨_, hm⟩ := renM_some he
    obtain ⟨g0, g1, c, el, lo, hi, g2, g3, g4, g5⟩ := h.obj _ _ _ h2 hm
    refine ⟨g0, g1, c, el, lo, hi, g2, g3, g4.plain_to h4, fun hw => ⟨?_, (g5 (h3 hw)).2⟩⟩
    rintro (hb1 | hb1)
    · exact (g5 (h3 hw)).1 hb1
    · subst hw
      exact hb1.2 b e (wrk_of hb) hm rfl
  · obtain ⟨vs, rw, rw', opn, rfl, h2, h3, h4⟩ := hs.row b o hb
    obtain ⟨vs2, rw2, rw2', opn2, rfl, k2, k3, k4⟩ := hs.row b' o' hb'
    obtain ⟨_, hm⟩ := renM_some he
    obtain ⟨_, hm'⟩ := renM_some he'
    have hw : rw = true := by simpa [AObj.owned] using ho
    have := h.inj _ _ _ _ _ _ h2 k2 hm hm' (by simp [AObj.owned, h3 hw]) rfl hc
    exact hs.inj _ _ (lt_of_some hb) (lt_of_some hb') this

/-- A function that writes into rows and hands out what is plain. -/
theorem CallR.frameW {P : Program} {ex : Bool} {f : FuncId} {args0 args : List Value} {σ0 σ0' σ σ' : AHeap} {v : Value} {r : Nat → Nat} (hs : Part σ0 r σ) (ha : args0.map (renV r 3) = args)
    (h : CallR P ex f args0 σ0 v σ0') (hv : plain v = true) (hl : σ'.length = σ.length)
    (hσ : ∀ b o, σ'[b]? = some o → o = .dead ∨ (σ[b]? = some o ∧ ∀ k, wrk σ0 k = true → r k ≠ b) ∨ (∃ k us rw2 opn2, r k = b ∧ wrk σ0 k = true ∧ σ0'[k]? = some o ∧ o = .row us rw2 opn2 ∧ us.all plain = true)) : CallR P ex f args σ v σ' := by
  intro B μ w cargs hr hargs
  subst ha
  refine (h (rest B μ σ0 r w) _ w cargs (hs.heap hr) (hargs.ren' (hs.back hr))).mono ?_
  rintro cv w' ⟨μ', q1, q2, q3, q4⟩
  have hoff : ∀ (b : Nat) (o : AObj) (e : Ent), σ[b]? = some o → o.live = true → μ[b]? = some (some e) → (∀ k, wrk σ0 k = true → r k ≠ b) → w'.heap[e.cb]? = w.heap[e.cb]? := by
    intro b o e hb hlv he hk
    refine q4.block _ (.inr ⟨(hr.obj b o e hb he).lt hlv, fun k e' hw hm hc => ?_⟩)
    obtain ⟨vs, opn, hk0⟩ := wrk_row hw
    obtain ⟨vs', rw, rw', opn', h1, h2, h3, h4⟩ := hs.row k _ hk0
    cases h1
    exact hk k hw (hr.inj _ _ _ _ _ _ h2 hb hm he (by simp [AObj.owned, h3 rfl]) hlv hc)
  have hnew : ∀ (k : Nat) (e : Ent), k < σ0.length → μ[r k]? = some (some e) → μ'[k]? = some (some e) := by
    intro k e hk he
    rw [q3 k (by simp [renM]; exact hk)]
    exact hs.back hr k e he
  -- what stood at b before
  have hwas : ∀ (b : Nat) (o : AObj), σ'[b]? = some o → o.live = true → ∃ (o0 : AObj), σ[b]? = some o0 ∧ o0.live = true ∧ (o.owned = true → o0.owned = true) := by
    intro b o hb hlv
    rcases hσ b o hb with rfl | ⟨h1, _⟩ | ⟨k, us, rw2, opn2, rfl, hw, h1, _, _⟩
    · cases hlv
    · exact ⟨o, h1, hlv, id⟩
    · obtain ⟨vs, opn, hk0⟩ := wrk_row hw
      obtain ⟨vs', rw, rw', opn', h2, h3, h4, h5⟩ := hs.row k _ hk0
      cases h2
      exact ⟨_, h3, rfl, fun _ => by simp [AObj.owned, h4 rfl]⟩
  refine ⟨μ, q1.plain_ren hv, ⟨by rw [hl]; exact hr.len, fun k hk => Nat.lt_of_lt_of_le (hr.hB k hk) q4.size, fun b o hb hlv => ?_, fun b o e hb he => ?_, fun b b' o o' e e' hb hb' he he' ho hlv hc => ?_⟩, Ext.refl _, ⟨q4.os, q4.tape, q4.output, q4.size, fun k hk => q4.block k (.inl hk)⟩⟩
  · obtain ⟨o0, h1, h2, _⟩ := hwas b o hb hlv
    exact hr.has b o0 h1 h2
  · rcases hσ b o hb with rfl | ⟨h1, h2⟩ | ⟨k, us, rw2, opn2, rfl, hw, h1, rfl, hp⟩
    · trivial
    · exact (hr.obj b o e h1 he).mono (Sub.refl _) (fun hlv => hoff b o e h1 hlv he h2)
    · obtain ⟨vs, opn, hk0⟩ := wrk_row hw
      have hm := hnew k e (lt_of_some hk0) he
      obtain ⟨vs', rw, rw', opn', h2, h3, h4, h5⟩ := hs.row k _ hk0
      cases h2
      have hq := q2.obj k _ e h1 hm
      obtain ⟨g0, g1, c, el, lo, hi, g2, g3, g4, g5⟩ := hq
      obtain ⟨_, _, _, _, _, _, _, _, _, f5⟩ := hr.obj _ _ _ h3 he
      exact ⟨g0, g1, c, el, lo, hi, g2, g3, g4.plain_to hp, fun h => ⟨(f5 (h4 rfl)).1, (g5 h).2⟩⟩
  · have hlo : o.live = true := by cases o <;> first | rfl | cases ho
    obtain ⟨o0, h1, h2, h3⟩ := hwas b o hb hlo
    obtain ⟨o1, k1, k2, k3⟩ := hwas b' o' hb' hlv
    exact hr.inj b b' o0 o1 e e' h1 k1 he he' (h3 ho) k2 hc

/-! ### A row without spare room is one of unknown spare room -/
end Go.Lk
end

section
/- append within a slice's room; rows of rows. -/
namespace Go.Lk
set_option linter.unusedSimpArgs false
set_option linter.unusedVariables false
theorem qF_eq {k : IntKind} {z c b : Int} {σ : AHeap} (h : z = c) (hb : b ≠ 0) : qF (.int k z) σ b = some (.int k c, σ) := by rw [h]; exact qF_ok _ _ hb
theorem bnd_no (d y : Nat) : bnd none d y = some d := rfl
theorem bnd_int {k : IntKind} {i d y : Nat} (h : i ≤ y) : bnd (some (.int k (iN i))) d y = some i := by
  unfold bnd
  simp only
  rw [if_pos ⟨by rw [iN_eq]; omega, by rw [iN_eq]; omega⟩]
  rfl
theorem slice_op {P : Program} {t e : TypeId} {z b o len cap l h off' n' c' : Nat} {low high : Option Value} (hu : P.underlying t = some (.slice e)) (hz : tSize P e = some z) (hl : bnd low 0 h = some l) (hh : bnd high len cap = some h) (hc : h ≤ cap)
    (ho : off' = o + l * z) (hn : n' = h - l) (hcap : c' = cap - l) :
    aSlice P t (.slice (some ⟨b, o, some z⟩) len cap) low high none = some (.slice (some ⟨b, off', some z⟩) n' c') := by
  unfold aSlice
  simp only [hu, hz]
  unfold bnds
  have h1 : bnd none cap cap = some cap := rfl
  simp only [h1, Option.isSome_none, Bool.false_and, Bool.false_eq_true, if_false, hh, hl]
  rw [if_pos ⟨trivial, hc⟩, ho, hn, hcap]
end Go.Lk
end

section
/- A row of which one element is written. -/
namespace Go.Lk
set_option linter.unusedVariables false
def updR (f : Nat → List Value) (k : Nat) (l : List Value) (i : Nat) : List Value := bif Nat.beq i k then l else f i
theorem updR_at (f : Nat → List Value) (k : Nat) (l : List Value) : updR f k l k = l := by
  unfold updR; rw [show Nat.beq k k = true from Nat.beq_refl k]; rfl
theorem updR_ne (f : Nat → List Value) (k : Nat) (l : List Value) {i : Nat} (h : i ≠ k) : updR f k l i = f i := by
  unfold updR
  have : Nat.beq i k = false := by cases h' : Nat.beq i k; rfl; exact absurd (Nat.eq_of_beq_eq_true h') h
  rw [this]; rfl
theorem updR_len {f : Nat → List Value} {k s : Nat} {l : List Value} (hf : ∀ i, (f i).length = s) (hl : l.length = s) (i : Nat) : (updR f k l i).length = s := by
  unfold updR; cases Nat.beq i k; exact hf i; exact hl
theorem updR_all {f : Nat → List Value} {k : Nat} {l : List Value} {p : Value → Bool} (hf : ∀ i, (f i).all p = true) (hl : l.all p = true) (i : Nat) : (updR f k l i).all p = true := by
  unfold updR; cases Nat.beq i k; exact hf i; exact hl
end Go.Lk
end

section
/- Rounds whose kept rows hold addresses of blocks that stay. -/
namespace Go.Lk
set_option linter.unusedSimpArgs false
set_option linter.unusedVariables false
def Stay (n0 : Nat) (o : AObj) : Prop := ∀ r : Nat → Nat, (∀ b, b < n0 → r b = b) → renO r o = o
def StayL (n0 : Nat) : List AObj → Prop
  | [] => True
  | o :: l => Stay n0 o ∧ StayL n0 l
theorem StayL.get {n0 : Nat} : ∀ {l : List AObj}, StayL n0 l → ∀ (b : Nat) (o : AObj), l[b]? = some o → Stay n0 o
  | [], _, b, o, h => by simp at h
  | x :: l, hp, 0, o, h => by simp at h; rw [← h]; exact hp.1
  | x :: l, hp, b + 1, o, h => by simp at h; exact StayL.get hp.2 b o h
theorem stay_plain {n0 : Nat} {o : AObj} (h : plainO o) : Stay n0 o := fun r _ => h.ren
theorem stay_closed {n0 : Nat} {vs : List Value} {rw' : Bool} {opn : Option Nat} (h : vs.all (named0 n0) = true) : Stay n0 (.row vs rw' opn) := fun r hr => by
  simp only [renO]
  rw [namedL_inert hr 3 h]
theorem Sim.keepS {C : Cfg} {c : Code} {fr fr1 fr' : List Value} {σ0 σ σ1 σ' : AHeap} {e : Exit} {n0 : Nat} (h : Sim C n0 c fr σ e fr1 σ1) (hs : Stood C.ex σ0) (hn : n0 ≤ σ.length) (ks : List Nat) (mask : List Bool)
    (hn0 : ks.take n0 = List.range n0) (hk0 : ks.take σ0.length = List.range σ0.length) (hlt : ks.all (fun k => Nat.blt k σ1.length) = true) (hnd : ks.Nodup) (hσ : pickH ks σ1 = σ') (hfix : σ'.take σ0.length = σ0)
    (hp : ∀ b o, σ0.length ≤ b → σ'[b]? = some o → Stay n0 o) (hf : maskF mask fr1 = fr'.map (renV (rOf ks σ1.length) 3)) : Sim C n0 c fr σ e fr' σ' := by
  have hlen : σ'.length = ks.length := by rw [← hσ]; simp [pickH]
  have hget : ∀ (b k : Nat), ks[b]? = some k → σ'[b]? = some (σ1.getD k .dead) ∧ k < σ1.length := by
    intro b k hb
    refine ⟨by rw [← hσ]; simp [pickH, hb], ?_⟩
    have := List.all_eq_true.1 hlt k (List.mem_of_getElem? hb)
    simpa [Nat.blt_eq] using this
  have hfixr : ∀ (m : Nat), ks.take m = List.range m → ∀ b, b < m → rOf ks σ1.length b = b ∧ b < ks.length := by
    intro m hm b hb
    have h1 : (ks.take m)[b]? = some b := by rw [hm, List.getElem?_range hb]
    rw [List.getElem?_take, if_pos hb] at h1
    exact ⟨by unfold rOf; rw [h1], lt_of_some h1⟩
  have hn0l : n0 ≤ ks.length := by
    rcases Nat.eq_zero_or_pos n0 with h0 | h0
    · omega
    · have := (hfixr n0 hn0 (n0 - 1) (by omega)).2; omega
  have hk0l : σ0.length ≤ ks.length := by
    rcases Nat.eq_zero_or_pos σ0.length with h0 | h0
    · omega
    · have := (hfixr _ hk0 (σ0.length - 1) (by omega)).2; omega
  refine h.embN (r := rOf ks σ1.length) hs hn (by omega) (fun b hb => (hfixr n0 hn0 b hb).1) ⟨by omega, fun b hb => ?_, fun b hb => (hfixr _ hk0 b hb).1, fun b b' o o' hb hb' _ _ e => ?_, fun b o hb hl => ?_⟩ (emb_of_map mask fr1 fr' hf)
  · unfold rOf
    rw [List.getElem?_eq_none (by omega)]
    simp only; omega
  · have h1 := lt_of_some hb
    have h2 := lt_of_some hb'
    obtain ⟨k, hk⟩ : ∃ k, ks[b]? = some k := ⟨_, List.getElem?_eq_getElem (by omega)⟩
    obtain ⟨k', hk'⟩ : ∃ k, ks[b']? = some k := ⟨_, List.getElem?_eq_getElem (by omega)⟩
    unfold rOf at e
    rw [hk, hk'] at e
    simp only at e
    subst e
    exact (List.getElem?_inj (lt_of_some hk) hnd).1 (hk.trans hk'.symm)
  · have h1 := lt_of_some hb
    obtain ⟨k, hk⟩ : ∃ k, ks[b]? = some k := ⟨_, List.getElem?_eq_getElem (by omega)⟩
    obtain ⟨g1, g2⟩ := hget b k hk
    rw [hb] at g1
    have hk1 : σ1[k]? = some o := by
      cases g1
      rw [List.getD_eq_getElem?_getD, List.getElem?_eq_getElem g2]
      rfl
    rcases Nat.lt_or_ge b σ0.length with h' | h'
    · left
      refine ⟨h', by rw [← hfix, List.getElem?_take, if_pos h']; exact hb, ?_⟩
      have := (hfixr _ hk0 b h').1
      unfold rOf at this
      rw [hk] at this
      simp only at this
      rw [← this]; exact hk1
    · right
      have : rOf ks σ1.length b = k := by unfold rOf; rw [hk]
      rw [this, hp b o h' hb (rOf ks σ1.length) fun b hb => (hfixr n0 hn0 b hb).1]
      exact hk1
theorem Sim.of_roundC {C : Cfg} (hC : C.Ok) {X : List Nat} {n : Nat} {body : Code} {orc : Orc} {ks : List Nat} {mask : List Bool} {fr fr' : List Value} {σ σ' σ0 : AHeap} {ps : List Prop} {e : Exit} {L : Nat} (n0 : Nat) (hok : codeOkX C X body = true)
    (h : roundQ C X n body orc ks mask fr σ = some (ps, e, fr'.map (renV (rOf ks L) 3), σ', L)) (hp : All ps) (hst : Stood C.ex σ0) (hn : Nat.ble n0 σ.length = true) (hn0 : ks.take n0 = List.range n0) (hk0 : ks.take σ0.length = List.range σ0.length) (hnd : ks.Nodup)
    (hfix : σ'.take σ0.length = σ0) (hpl : StayL n0 (σ'.drop σ0.length)) : Sim C n0 body fr σ e fr' σ' := by
  unfold roundQ at h
  split at h
  · rename_i ps1 e1 t1 o1 fr1 σ1 hd
    cases hb : (ks.all fun k => Nat.blt k σ1.length)
    · rw [hb] at h; cases h
    · rw [hb] at h
      simp only [cond_true, Option.some.injEq, Prod.mk.injEq] at h
      obtain ⟨h1, h2, h3, h4, h5⟩ := h
      subst h1 h2 h5
      have hn' := Nat.le_of_ble_eq_true hn
      exact Sim.keepS ((DO_sound hC X n _ _ _ _ _ hok hd hp).1.le hn') hst hn' ks mask hn0 hk0 hb hnd h4 hfix (fun b o h1 h2 => StayL.get hpl (b - σ0.length) o (by rw [List.getElem?_drop, show σ0.length + (b - σ0.length) = b by omega]; exact h2)) h3
  · cases h
end Go.Lk
end

section
/- Rounding keeps the order; bounds. -/
namespace Go.Lk
open Ieee (Format Datum Toward)
set_option linter.unusedSimpArgs false
set_option linter.unusedVariables false

theorem rne_le_of {m D v : Nat} (h : m ≤ v * 2 ^ D) : rne m D ≤ v := by
  have hp : 0 < 2 ^ D := Nat.two_pow_pos D
  have hd : m / 2 ^ D ≤ v := by
    rw [Nat.div_le_iff_le_mul_add_pred hp]
    have : v * 2 ^ D = 2 ^ D * v := Nat.mul_comm _ _
    omega
  rcases Nat.lt_or_eq_of_le hd with h1 | h1
  · have := rne_le m D; omega
  · have h0 : m % 2 ^ D = 0 := by
      have := Nat.div_add_mod m (2 ^ D)
      rw [h1] at this
      have : 2 ^ D * v = v * 2 ^ D := Nat.mul_comm _ _
      omega
    unfold rne
    rw [h0, h1]
    have : (2 ^ D == 2 * 0) = false := by simp
    rw [this]
    simp

/-- The rung of m / 2^q units. -/
def rungQ (m q : Nat) : Nat := (max (m.log2 - 52) q - q) * 2 ^ 52 + rne m (max (m.log2 - 52) q)

theorem rungQ_kept (m q : Nat) : (max (m.log2 - 52) q - q = 0 ∧ rne m (max (m.log2 - 52) q) < 2 ^ 53) ∨ (2 ^ 52 ≤ rne m (max (m.log2 - 52) q) ∧ rne m (max (m.log2 - 52) q) ≤ 2 ^ 53) := by
  rcases Nat.lt_or_ge q (m.log2 - 52) with h | h
  · rw [Nat.max_eq_left (by omega)]
    right
    have := kept_range m
    unfold kd52 at this
    omega
  · rw [Nat.max_eq_right (by omega)]
    rcases Nat.lt_or_ge (rne m q) (2 ^ 53) with h1 | h1
    · left; omega
    · right
      refine ⟨by omega, ?_⟩
      have hm : m ≤ 2 ^ 53 * 2 ^ q := by
        rcases Nat.eq_zero_or_pos m with rfl | hm
        · omega
        · have : m < 2 ^ (m.log2 + 1) := Nat.lt_log2_self
          have h2 : 2 ^ (m.log2 + 1) ≤ 2 ^ 53 * 2 ^ q := by rw [← Nat.pow_add]; exact pow_ge (by omega)
          exact Nat.le_of_lt (Nat.lt_of_lt_of_le this h2)
      exact rne_le_of hm
theorem rungQ_val (m q : Nat) : fxr (rungQ m q) = rne m (max (m.log2 - 52) q) * 2 ^ (max (m.log2 - 52) q - q) := fxr_add (rungQ_kept m q)

theorem rungQ_le {m q R : Nat} (h : m ≤ fxr R * 2 ^ q) : rungQ m q ≤ R := by
  refine fxr_le.1 ?_
  rw [rungQ_val]
  rcases Nat.lt_or_ge q (m.log2 - 52) with hq | hq
  · rw [Nat.max_eq_left (by omega)]
    generalize hD : m.log2 - 52 = D at *
    have hm0 : m ≠ 0 := by rintro rfl; simp at hD; omega
    have h1 : 2 ^ m.log2 ≤ m := Nat.log2_self_le hm0
    have hl : m.log2 = 52 + D := by omega
    rw [hl] at h1
    obtain ⟨c, j, e, hc⟩ := fxr_form R
    -- fxr R is a multiple of 2^(D-q)
    have hj : D - q ≤ j := by
      rcases Nat.lt_or_ge j (D - q) with hlt | hge
      · exfalso
        have h2 : fxr R * 2 ^ q < 2 ^ 53 * 2 ^ (j + q) := by
          rw [e, Nat.mul_assoc, ← Nat.pow_add]
          exact Nat.mul_lt_mul_of_pos_right hc (Nat.two_pow_pos _)
        rw [← Nat.pow_add] at h2
        have h3 : 2 ^ (53 + (j + q)) ≤ 2 ^ (52 + D) := pow_ge (by omega)
        omega
      · exact hge
    have e2 : fxr R = c * 2 ^ (j - (D - q)) * 2 ^ (D - q) := by rw [e, Nat.mul_assoc, ← Nat.pow_add]; congr 2; omega
    have h4 : m ≤ c * 2 ^ (j - (D - q)) * 2 ^ D := by
      rw [e2, Nat.mul_assoc, ← Nat.pow_add, show D - q + q = D by omega] at h
      exact h
    rw [e2]
    exact Nat.mul_le_mul_right _ (rne_le_of h4)
  · rw [Nat.max_eq_right (by omega), Nat.sub_self, Nat.pow_zero, Nat.mul_one]
    exact rne_le_of h
theorem rung_le_of {T R : Nat} (h : T ≤ fxr R) : rung T ≤ R := by
  have h1 : rungQ T 0 ≤ R := rungQ_le (by simpa using h)
  unfold rungQ at h1
  unfold rung kd52
  simp only [Nat.max_zero, Nat.sub_zero] at h1
  omega

theorem nearest_neg (s : Bool) (m : Nat) (p : Int) (q : Nat) (hp : p = -1074 - (q : Int)) (hm : m ≠ 0) : dbl.nearest s m p = wd s (min (rungQ m q) (2047 * 2 ^ 52)) := by
  unfold Format.nearest
  rw [if_neg hm]
  simp only [fb_eq, lp_eq, bin_eq, inf_eq, word_eq, cut_even, Nat.shiftLeft_eq]
  have hlast : max (p + m.log2 - (52 : Nat)) (-1074) = p + (max (m.log2 - 52) q : Nat) := by omega
  rw [hlast]
  have e1 : (p - (p + (max (m.log2 - 52) q : Nat))).toNat = 0 := by omega
  have e2 : (p + (max (m.log2 - 52) q : Nat) - p).toNat = max (m.log2 - 52) q := by omega
  have e3 : (p + (max (m.log2 - 52) q : Nat) - -1074).toNat = max (m.log2 - 52) q - q := by omega
  rw [e1, e2, e3, Nat.pow_zero, Nat.mul_one]
  rfl

theorem rnd_le {z : Bool} {T : Int} {R : Nat} (hR : R < 2047 * 2 ^ 52) (h : T.natAbs ≤ fxr R) : isFin (rnd z T) = true ∧ fxr (rg (rnd z T)) ≤ fxr R := by
  unfold rnd
  split
  · have : rg (wd z 0) = 0 := rg_wd (by decide)
    exact ⟨fin_wd (by decide), by rw [this, fxr_zero]; exact Nat.zero_le _⟩
  · have h1 := rung_le_of h
    exact ⟨fin_wd (by omega), by rw [rg_wd (by omega)]; exact fxr_le.2 h1⟩

/-! ### Wrapped numbers -/
theorem fxr_one : fxr (rg fone) = U := by decide +kernel
theorem fx_one : fx fone = (U : Int) := by decide +kernel
theorem rg_one_lt : rg fone < 2047 * 2 ^ 52 := by decide
theorem fx_half : fx half * 2 = (U : Int) := by decide +kernel
theorem fx_abs (x : Nat) : (fx x).natAbs = fxr (rg x) := sgn_abs _ _
/-- A finite float, made whole. -/
theorem toInt_fin {x : Nat} (h : isFin x = true) : (dbl.read x).toInt .zero = some (sgn (sg x) (fxr (rg x) / U)) := by
  obtain ⟨m, p, e, hp, hm, hlt⟩ := read_fin h
  rw [e]
  simp only [Datum.toInt, Datum.integral, Nat.shiftLeft_eq, cut_zero, signed_eq]
  rw [(whole_eq hp).1, hm, Nat.pow_zero, Nat.mul_one]
end Go.Lk
end

section
/- Between what each operation's result lies: products, quotients, roots; how far from them it may be. -/
namespace Go.Lk
open Ieee (Format Datum Toward)
set_option linter.unusedSimpArgs false
set_option linter.unusedVariables false

def infR : Nat := 2047 * 2 ^ 52
theorem rne_ge_of {m D v : Nat} (h : v * 2 ^ D ≤ m) : v ≤ rne m D :=
  Nat.le_trans ((Nat.le_div_iff_mul_le (Nat.two_pow_pos D)).2 h) (rne_ge m D)
theorem rungQ_ge {m q R : Nat} (h : fxr R * 2 ^ q ≤ m) : R ≤ rungQ m q := by
  refine fxr_le.1 ?_
  rw [rungQ_val]
  rcases Nat.lt_or_ge q (m.log2 - 52) with hq | hq
  · rw [Nat.max_eq_left (by omega)]
    generalize hD : m.log2 - 52 = D at *
    have hm0 : m ≠ 0 := by rintro rfl; simp at hD; omega
    have h1 : 2 ^ m.log2 ≤ m := Nat.log2_self_le hm0
    have hl : m.log2 = 52 + D := by omega
    rw [hl] at h1
    obtain ⟨c, j, e, hc⟩ := fxr_form R
    rcases Nat.lt_or_ge j (D - q) with hlt | hge
    · have h2 : fxr R < 2 ^ 53 * 2 ^ j := by rw [e]; exact Nat.mul_lt_mul_of_pos_right hc (Nat.two_pow_pos _)
      have h3 : 2 ^ 52 ≤ rne m D := rne_ge_of (by rw [← Nat.pow_add]; exact h1)
      have h4 : 2 ^ 53 * 2 ^ j ≤ 2 ^ 52 * 2 ^ (D - q) := by rw [← Nat.pow_add, ← Nat.pow_add]; exact pow_ge (by omega)
      exact Nat.le_of_lt (Nat.lt_of_lt_of_le h2 (Nat.le_trans h4 (Nat.mul_le_mul_right _ h3)))
    · have e2 : fxr R = c * 2 ^ (j - (D - q)) * 2 ^ (D - q) := by rw [e, Nat.mul_assoc, ← Nat.pow_add]; congr 2; omega
      have h4 : c * 2 ^ (j - (D - q)) * 2 ^ D ≤ m := by
        rw [e2, Nat.mul_assoc, ← Nat.pow_add, show D - q + q = D by omega] at h
        exact h
      rw [e2]
      exact Nat.mul_le_mul_right _ (rne_ge_of h4)
  · rw [Nat.max_eq_right (by omega), Nat.sub_self, Nat.pow_zero, Nat.mul_one]
    exact rne_ge_of h
theorem rungQ_shl (m q k : Nat) (hm : m ≠ 0) : rungQ (m * 2 ^ k) (q + k) = rungQ m q := by
  unfold rungQ
  rw [log2_shl k hm]
  have : max (m.log2 + k - 52) (q + k) = max (m.log2 - 52) q + k := by omega
  rw [this, rne_shl]
  congr 2
  omega
theorem rungQ_0 (q : Nat) : rungQ 0 q = 0 := Nat.le_zero.1 (rungQ_le (by rw [fxr_zero]; omega))
theorem rung_Q (T : Nat) : rung T = min (rungQ T 0) (2047 * 2 ^ 52) := by
  unfold rung rungQ kd52
  simp only [Nat.max_zero, Nat.sub_zero]
theorem nearest_any (s : Bool) (m : Nat) (p : Int) (M q : Nat) (hq : 0 ≤ p + 1074 + q) (h : M = m * 2 ^ (p + 1074 + q).toNat) : dbl.nearest s m p = wd s (min (rungQ M q) (2047 * 2 ^ 52)) := by
  by_cases hm : m = 0
  · subst hm
    rw [Nat.zero_mul] at h
    subst h
    rw [rungQ_0]
    unfold Format.nearest
    rw [if_pos rfl, word_eq]
    rfl
  · rcases Int.lt_or_le (p + 1074) 0 with hp | hp
    · rw [nearest_neg s m p (-1074 - p).toNat (by omega) hm, h]
      have e := rungQ_shl m (-1074 - p).toNat (p + 1074 + q).toNat hm
      rw [show (-1074 - p).toNat + (p + 1074 + q).toNat = q by omega] at e
      rw [e]
    · rw [nearest_eq s m p (by omega), rung_Q, h]
      have e := rungQ_shl (m * 2 ^ (p + 1074).toNat) 0 q (Nat.mul_ne_zero hm (Nat.ne_of_gt (Nat.two_pow_pos _)))
      rw [Nat.mul_assoc, ← Nat.pow_add, show (p + 1074).toNat + q = (p + 1074 + q).toNat by omega, Nat.zero_add] at e
      rw [e]

/-- The rung r is one that num / den lies at: it is between each two that num / den lies between. -/
def Near (num den r : Nat) : Prop := r ≤ infR ∧ ∀ R, R ≤ infR → (fxr R * den ≤ num → R ≤ r) ∧ (num ≤ fxr R * den → r ≤ R)
theorem near_rungQ (m q : Nat) : Near m (2 ^ q) (min (rungQ m q) (2047 * 2 ^ 52)) :=
  ⟨Nat.min_le_right .., fun R hR => ⟨fun h => Nat.le_min.2 ⟨rungQ_ge h, hR⟩, fun h => Nat.le_trans (Nat.min_le_left ..) (rungQ_le h)⟩⟩
theorem Near.cast {n d n' d' r : Nat} (h : Near n d r) (h1 : ∀ R, R ≤ infR → (fxr R * d' ≤ n' → fxr R * d ≤ n)) (h2 : ∀ R, R ≤ infR → (n' ≤ fxr R * d' → n ≤ fxr R * d)) : Near n' d' r :=
  ⟨h.1, fun R hR => ⟨fun k => (h.2 R hR).1 (h1 R hR k), fun k => (h.2 R hR).2 (h2 R hR k)⟩⟩
theorem fmul_near {x y : Nat} (hx : isFin x = true) (hy : isFin y = true) : ∃ r, fmul x y = wd (sg x ^^ sg y) r ∧ Near (fxr (rg x) * fxr (rg y)) U r := by
  obtain ⟨m, i, e1, h1, h2, _⟩ := read_fin hx
  obtain ⟨n, j, e2, h3, h4, _⟩ := read_fin hy
  have hr : fmul x y = dbl.nearest (sg x ^^ sg y) (m * n) (i + j) := by
    unfold fmul Format.mul
    rw [e1, e2]
    rfl
  obtain ⟨u, hu, hU⟩ := U_spec
  have h5 := nearest_any (sg x ^^ sg y) (m * n) (i + j) (m * n * 2 ^ (i + j + 1074 + (u : Int)).toNat) u (by clear hU; omega) rfl
  refine ⟨_, hr.trans h5, ?_⟩
  have e : m * n * 2 ^ (i + j + 1074 + (u : Int)).toNat = fxr (rg x) * fxr (rg y) := by
    rw [← h2, ← h4]
    have : (i + j + 1074 + (u : Int)).toNat = (i + 1074).toNat + (j + 1074).toNat := by clear hU h5; omega
    rw [this, Nat.pow_add]
    ac_rfl
  rw [e, hU]
  exact near_rungQ _ _

theorem div_core {m n a b w more F : Nat} {c e : Nat} (hm : m ≠ 0) (hn : n ≠ 0) (hmore : more = 54 + n.log2 - m.log2) (hF : F = c * 2 ^ e) (hc : c < 2 ^ 53) (he : b + more ≤ e) :
    (F * n ≤ m * 2 ^ more * 2 ^ (a + w) → F * 2 ≤ (2 * (m * 2 ^ more / n) + (m * 2 ^ more % n != 0).toNat) * 2 ^ (a + w)) ∧
    (m * 2 ^ more * 2 ^ (a + w) ≤ F * n → (2 * (m * 2 ^ more / n) + (m * 2 ^ more % n != 0).toNat) * 2 ^ (a + w) ≤ F * 2) := by
  have hD : 2 ^ (54 + n.log2) ≤ m * 2 ^ more := by
    have h1 : 2 ^ m.log2 ≤ m := Nat.log2_self_le hm
    calc 2 ^ (54 + n.log2) ≤ 2 ^ (m.log2 + more) := pow_ge (by omega)
      _ = 2 ^ m.log2 * 2 ^ more := Nat.pow_add ..
      _ ≤ _ := Nat.mul_le_mul_right _ h1
  generalize m * 2 ^ more = D at *
  have hn2 : n < 2 ^ (n.log2 + 1) := Nat.lt_log2_self
  have hn0 : 0 < n := by omega
  have hDn : 2 ^ 53 * n < D := by
    have : 2 ^ 53 * 2 ^ (n.log2 + 1) = 2 ^ (54 + n.log2) := by rw [← Nat.pow_add]; congr 1; omega
    omega
  have hq0 : 2 ^ 53 ≤ D / n := (Nat.le_div_iff_mul_le hn0).2 (Nat.le_of_lt hDn)
  have hdm := Nat.div_add_mod D n
  have hml : D % n < n := Nat.mod_lt _ hn0
  have hbit : (D % n != 0).toNat = if D % n = 0 then 0 else 1 := by by_cases h : D % n = 0 <;> simp [h]
  rw [hbit]
  generalize a + w = g
  have hG : 0 < 2 ^ g := Nat.two_pow_pos g
  rcases Nat.lt_or_ge e g with hlt | hge
  · have hFs : F < 2 ^ 52 * 2 ^ g := by
      have h2 : F < 2 ^ 53 * 2 ^ e := by rw [hF]; exact Nat.mul_lt_mul_of_pos_right hc (Nat.two_pow_pos _)
      have h4 : 2 ^ 53 * 2 ^ e ≤ 2 ^ 52 * 2 ^ g := by rw [← Nat.pow_add, ← Nat.pow_add]; exact pow_ge (by omega)
      omega
    constructor
    · intro _
      have h1 : 2 ^ 53 * 2 ^ g ≤ D / n * 2 ^ g := Nat.mul_le_mul_right _ hq0
      have h2 : D / n * 2 ^ g ≤ (2 * (D / n) + if D % n = 0 then 0 else 1) * 2 ^ g := Nat.mul_le_mul_right _ (by omega)
      omega
    · intro h
      exfalso
      have h1 : F * n < 2 ^ 52 * 2 ^ g * n := Nat.mul_lt_mul_of_pos_right hFs hn0
      have h2 : 2 ^ 53 * n * 2 ^ g < D * 2 ^ g := Nat.mul_lt_mul_of_pos_right hDn hG
      have h3 : 2 ^ 53 * n * 2 ^ g = 2 * (2 ^ 52 * 2 ^ g * n) := by
        rw [show (2 : Nat) ^ 53 = 2 * 2 ^ 52 by decide]; ac_rfl
      omega
  · have hf : F = c * 2 ^ (e - g) * 2 ^ g := by rw [hF, Nat.mul_assoc, ← Nat.pow_add]; congr 2; omega
    generalize c * 2 ^ (e - g) = f at hf
    rw [hf]
    constructor
    · intro h
      have h1 : f * n ≤ D := Nat.le_of_mul_le_mul_right (by rw [show f * n * 2 ^ g = f * 2 ^ g * n by ac_rfl]; exact h) hG
      have h2 : f ≤ D / n := (Nat.le_div_iff_mul_le hn0).2 h1
      rw [show f * 2 ^ g * 2 = (2 * f) * 2 ^ g by ac_rfl]
      exact Nat.mul_le_mul_right _ (by omega)
    · intro h
      have h1 : D ≤ f * n := Nat.le_of_mul_le_mul_right (by rw [show f * n * 2 ^ g = f * 2 ^ g * n by ac_rfl]; exact h) hG
      rw [show f * 2 ^ g * 2 = (2 * f) * 2 ^ g by ac_rfl]
      refine Nat.mul_le_mul_right _ ?_
      have hcm : n * (D / n) = D / n * n := Nat.mul_comm _ _
      split
      · rename_i h0
        have : D / n * n ≤ f * n := by omega
        have := Nat.le_of_mul_le_mul_right this hn0
        omega
      · rename_i h0
        have h2 : D / n * n < f * n := by omega
        have := Nat.lt_of_mul_lt_mul_right h2
        omega

theorem fdiv_near {x y : Nat} (hx : isFin x = true) (hy : isFin y = true) (hy0 : fxr (rg y) ≠ 0) : ∃ r, fdiv x y = wd (sg x ^^ sg y) r ∧ Near (fxr (rg x) * U) (fxr (rg y)) r := by
  obtain ⟨m, i, e1, h1, h2, _⟩ := read_fin hx
  obtain ⟨n, j, e2, h3, h4, _⟩ := read_fin hy
  have hn : n ≠ 0 := by rintro rfl; rw [Nat.zero_mul] at h4; exact hy0 h4.symm
  generalize hmo : 54 + n.log2 - m.log2 = more
  have hr : fdiv x y = dbl.nearest (sg x ^^ sg y) (2 * (m * 2 ^ more / n) + (m * 2 ^ more % n != 0).toNat) (i - j - more - 1) := by
    unfold fdiv Format.div
    rw [e1, e2]
    simp only [Datum.quotient, if_neg hn, fb_eq, Nat.shiftLeft_eq]
    rw [show 52 + 2 + n.log2 - m.log2 = more by omega]
    rfl
  obtain ⟨u, hu, hU⟩ := U_spec
  generalize ha : (i + 1074).toNat = a at *
  generalize hb : (j + 1074).toNat = b at *
  have hpl : i - j - more - 1 + 1074 + ((b + more + 1 : Nat) : Int) = ((a + u : Nat) : Int) := by clear hU; omega
  have h5 := nearest_any (sg x ^^ sg y) (2 * (m * 2 ^ more / n) + (m * 2 ^ more % n != 0).toNat) (i - j - more - 1) _ (b + more + 1) (by rw [hpl]; omega) rfl
  rw [hpl, Int.toNat_natCast] at h5
  refine ⟨_, hr.trans h5, ?_⟩
  by_cases hm : m = 0
  · subst hm
    rw [Nat.zero_mul] at h2
    have e0 : 2 * (0 * 2 ^ more / n) + (0 * 2 ^ more % n != 0).toNat = 0 := by simp
    rw [e0, Nat.zero_mul, rungQ_0, ← h2, Nat.zero_mul]
    refine ⟨by decide, fun R hR => ⟨fun h => ?_, fun _ => Nat.zero_le _⟩⟩
    have h6 : fxr R = 0 := by
      rcases Nat.mul_eq_zero.1 (Nat.le_zero.1 h) with h | h
      · exact h
      · exact absurd h hy0
    rw [← fxr_zero] at h6
    have := fxr_inj h6
    omega
  · refine (near_rungQ _ _).cast (fun R hR h => ?_) (fun R hR h => ?_)
    · obtain ⟨c, e, hR', hc⟩ := fxr_form R
      have k := (div_core (m := m) (n := n) (a := a) (b := b) (w := u) (more := more) (F := fxr R * 2 ^ (b + more)) (c := c) (e := e + (b + more)) hm hn hmo.symm (by rw [hR', Nat.mul_assoc, ← Nat.pow_add]) hc (by omega)).1
      rw [← h2, ← h4, hU] at h
      have := k (by
        calc fxr R * 2 ^ (b + more) * n = fxr R * (n * 2 ^ b) * 2 ^ more := by rw [Nat.pow_add]; ac_rfl
          _ ≤ m * 2 ^ a * 2 ^ u * 2 ^ more := Nat.mul_le_mul_right _ h
          _ = _ := by rw [Nat.pow_add]; ac_rfl)
      calc fxr R * 2 ^ (b + more + 1) = fxr R * 2 ^ (b + more) * 2 := by rw [Nat.pow_succ]; ac_rfl
        _ ≤ _ := this
    · obtain ⟨c, e, hR', hc⟩ := fxr_form R
      have k := (div_core (m := m) (n := n) (a := a) (b := b) (w := u) (more := more) (F := fxr R * 2 ^ (b + more)) (c := c) (e := e + (b + more)) hm hn hmo.symm (by rw [hR', Nat.mul_assoc, ← Nat.pow_add]) hc (by omega)).2
      rw [← h2, ← h4, hU] at h
      have := k (by
        calc m * 2 ^ more * 2 ^ (a + u) = m * 2 ^ a * 2 ^ u * 2 ^ more := by rw [Nat.pow_add]; ac_rfl
          _ ≤ fxr R * (n * 2 ^ b) * 2 ^ more := Nat.mul_le_mul_right _ h
          _ = _ := by rw [Nat.pow_add]; ac_rfl)
      calc _ ≤ fxr R * 2 ^ (b + more) * 2 := this
        _ = fxr R * 2 ^ (b + more + 1) := by rw [Nat.pow_succ]; ac_rfl

/-! ### How far -/
/-- The next one is no further than 1, or 2^-52 of it. -/
theorem fxr_gap (L : Nat) : 2 ^ 52 * fxr (L + 1) ≤ 2 ^ 52 * fxr L + max (2 ^ 52) (fxr L) := by
  rcases Nat.lt_or_ge L (2 ^ 52) with h | h
  · have e1 := fxr_add (k := 0) (c := L) (.inl ⟨rfl, by omega⟩)
    have e2 := fxr_add (k := 0) (c := L + 1) (.inl ⟨rfl, by omega⟩)
    simp only [Nat.zero_mul, Nat.zero_add, Nat.pow_zero, Nat.mul_one] at e1 e2
    rw [e1, e2]
    omega
  · have hL : L = (L / 2 ^ 52 - 1) * 2 ^ 52 + (2 ^ 52 + L % 2 ^ 52) := by omega
    generalize L / 2 ^ 52 - 1 = k at hL
    have hc : L % 2 ^ 52 < 2 ^ 52 := Nat.mod_lt _ (by decide)
    generalize L % 2 ^ 52 = c at hL hc
    have e1 := fxr_add (k := k) (c := 2 ^ 52 + c) (.inr ⟨by omega, by omega⟩)
    have e2 := fxr_add (k := k) (c := 2 ^ 52 + c + 1) (.inr ⟨by omega, by omega⟩)
    rw [hL, show k * 2 ^ 52 + (2 ^ 52 + c) + 1 = k * 2 ^ 52 + (2 ^ 52 + c + 1) by omega, e1, e2]
    have e3 : (2 ^ 52 + c + 1) * 2 ^ k = (2 ^ 52 + c) * 2 ^ k + 2 ^ k := by rw [Nat.add_mul (2 ^ 52 + c) 1, Nat.one_mul]
    have : 2 ^ 52 * 2 ^ k ≤ (2 ^ 52 + c) * 2 ^ k := Nat.mul_le_mul_right _ (by omega)
    rw [e3]
    omega

theorem Near.le_of {num den r R : Nat} (h : Near num den r) (hR : R ≤ infR) (k : num ≤ fxr R * den) : r ≤ R := (h.2 R hR).2 k
theorem Near.ge_of {num den r R : Nat} (h : Near num den r) (hR : R ≤ infR) (k : fxr R * den ≤ num) : R ≤ r := (h.2 R hR).1 k
/-- Two rungs, next to each other, between which num / den lies. -/
theorem Near.between {num den r : Nat} (h : Near num den r) (hd : 0 < den) (hr : r < infR) : ∃ L, L < infR ∧ fxr L * den ≤ num ∧ num < fxr (L + 1) * den ∧ (r = L ∨ r = L + 1) := by
  -- the greatest L with fxr L * den ≤ num
  have hz : fxr 0 * den ≤ num := by rw [fxr_zero]; omega
  have hbig : num < fxr infR * den := by
    rcases Nat.lt_or_ge num (fxr infR * den) with k | k
    · exact k
    · have := h.ge_of (Nat.le_refl _) k; omega
  have key : ∀ k, k ≤ infR → fxr (infR - k) * den ≤ num → ∃ L, L < infR ∧ fxr L * den ≤ num ∧ num < fxr (L + 1) * den := by
    intro k
    induction k with
    | zero => intro _ k; rw [Nat.sub_zero] at k; omega
    | succ k ih =>
      intro hk hL
      rcases Nat.lt_or_ge num (fxr (infR - k) * den) with h1 | h1
      · refine ⟨infR - (k + 1), by omega, hL, ?_⟩
        rw [show infR - (k + 1) + 1 = infR - k by omega]
        exact h1
      · exact ih (by omega) h1
  obtain ⟨L, hL, h1, h2⟩ := key infR (Nat.le_refl _) (by rw [Nat.sub_self]; exact hz)
  refine ⟨L, hL, h1, h2, ?_⟩
  have h3 := h.ge_of (by omega) h1
  have h4 := h.le_of (R := L + 1) (by omega) (Nat.le_of_lt h2)
  omega
/-- How far a result is from what it stands for. -/
theorem Near.err {num den r : Nat} (h : Near num den r) (hd : 0 < den) (hr : r < infR) :
    2 ^ 52 * (fxr r * den) ≤ 2 ^ 52 * num + max (2 ^ 52 * den) num ∧ 2 ^ 52 * num ≤ 2 ^ 52 * (fxr r * den) + max (2 ^ 52 * den) num := by
  obtain ⟨L, _, h1, h2, h3⟩ := h.between hd hr
  have hg := Nat.mul_le_mul_right den (fxr_gap L)
  have hm : max (2 ^ 52) (fxr L) * den ≤ max (2 ^ 52 * den) num := by
    rcases Nat.le_total (2 ^ 52) (fxr L) with k | k
    · rw [Nat.max_eq_right k]; exact Nat.le_trans h1 (Nat.le_max_right ..)
    · rw [Nat.max_eq_left k]; exact Nat.le_max_left ..
  rw [Nat.add_mul, Nat.mul_assoc, Nat.mul_assoc] at hg
  generalize max (2 ^ 52) (fxr L) * den = g at *
  generalize max (2 ^ 52 * den) num = G at *
  have hmono := Nat.mul_le_mul_right den (Nat.le_of_lt (fxr_step L))
  rcases h3 with rfl | rfl
  · omega
  · omega
end Go.Lk
end

section
/- Roots: between what they lie. -/
namespace Go.Lk
open Ieee (Format Datum Toward)
open Ieee.Datum (rootFrom)
set_option linter.unusedSimpArgs false
set_option linter.unusedVariables false

end Go.Lk
end

section
/- PlaceSquares: the plain law of sectors. -/
namespace Go.Lk
open Ieee (Format Datum Toward)
set_option linter.unusedSimpArgs false
set_option linter.unusedVariables false

theorem fxr_big : fxr 4850376798678024192 = 2 ^ 54 * U := by decide +kernel
/-- A whole number below 2^53, as a float. -/
theorem near_fx {n : Int} (h : n.natAbs < 2 ^ 53) : isFin (FloatKind.f64.nearest n) = true ∧ fx (FloatKind.f64.nearest n) = n * (U : Int) ∧ sg (FloatKind.f64.nearest n) = decide (n < 0) := by
  have e : FloatKind.f64.nearest n = dbl.nearest (decide (n < 0)) n.natAbs 0 := rfl
  rw [e, nearest_eq _ _ _ (by omega), U_of]
  obtain ⟨u, hu, hU⟩ := U_spec
  obtain ⟨h1, h2⟩ := rung_small (T := n.natAbs * U) (r := 4850376798678024192) (by rw [fxr_big]; exact Nat.mul_le_mul_right _ (by omega)) (by decide) ⟨n.natAbs, u, by rw [hU], h⟩
  refine ⟨fin_wd h1, ?_, sg_wd (rung_lt _)⟩
  have hs : sgn (decide (n < 0)) n.natAbs = n := by
    unfold sgn
    by_cases h0 : n < 0
    · rw [decide_eq_true h0, if_pos rfl]; omega
    · rw [decide_eq_false h0, if_neg (by decide)]; omega
  rw [fx_wd (rung_lt _), h2, sgn_mul, hs]
theorem rnd_exact {z : Bool} {T : Int} {R : Nat} (hR : R < 2047 * 2 ^ 52) (h : T.natAbs ≤ fxr R) (he : ∃ c j, T.natAbs = c * 2 ^ j ∧ c < 2 ^ 53) :
    isFin (rnd z T) = true ∧ fx (rnd z T) = T ∧ (T ≠ 0 → sg (rnd z T) = decide (T < 0)) := by
  unfold rnd
  split
  · rename_i h0
    subst h0
    exact ⟨fin_wd (by decide), by rw [fx_wd (by decide), fxr_zero, sgn_zero], fun h => absurd rfl h⟩
  · rename_i h0
    obtain ⟨h1, h2⟩ := rung_small h hR he
    refine ⟨fin_wd h1, ?_, fun _ => sg_wd (rung_lt _)⟩
    rw [fx_wd (rung_lt _), h2]
    unfold sgn
    by_cases hT : T < 0
    · rw [decide_eq_true hT, if_pos rfl]; omega
    · rw [decide_eq_false hT, if_neg (by decide)]; omega
theorem sg_fx {x : Nat} (h : fx x ≠ 0) : sg x = decide (fx x < 0) := sgn_neg h
theorem fx_rg {x : Nat} (h : sg x = false) : fx x = (fxr (rg x) : Int) := by unfold fx sgn; rw [h, if_neg (by decide)]
/-- H is half of U. -/
theorem U_half : ∃ H, U = 2 * H ∧ fx half = (H : Int) ∧ 0 < H ∧ ∃ Q, H = 2 * Q ∧ 0 < Q ∧ 2 ^ 100 ≤ Q ∧ ∃ q, Q = 2 ^ q := by
  obtain ⟨u, hu, hU⟩ := U_spec
  have h1 : U = 2 * 2 ^ (u - 1) := by rw [hU, ← Nat.pow_succ', show (u - 1).succ = u by omega]
  have h2 : 2 ^ (u - 1) = 2 * 2 ^ (u - 2) := by rw [← Nat.pow_succ', show (u - 2).succ = u - 1 by omega]
  have h3 := fx_half
  have h4 : (2 : Nat) ^ 100 ≤ 2 ^ (u - 2) := pow_ge (by omega)
  exact ⟨2 ^ (u - 1), h1, by omega, Nat.two_pow_pos _, 2 ^ (u - 2), h2, Nat.two_pow_pos _, h4, _, rfl⟩

end Go.Lk
end

section
/- A function that makes some new rows, which may hold one another's addresses: in a greater heap. -/
namespace Go.Lk
set_option linter.unusedSimpArgs false
set_option linter.unusedVariables false
theorem CallR.frameA {P : Program} {ex : Bool} {f : FuncId} {args0 args : List Value} {σ0 σ0' σ news : AHeap} {v v0 : Value} {r q ks : Nat → Nat} (hs : Reads σ0 r σ) (ha : args0.map (renV r 3) = args)
    (h : CallR P ex f args0 σ0 v0 σ0') (hn : ∀ j o, news[j]? = some o → ∃ vs opn, o = .row vs true opn ∧ σ0'[ks j]? = some (.row (vs.map (renV q 3)) true opn))
    (hinj : ∀ j j', j < news.length → j' < news.length → ks j = ks j' → j = j') (hq1 : ∀ j, j < news.length → q (σ.length + j) = ks j)
    (hq2 : ∀ b, (b < σ.length ∨ σ.length + news.length ≤ b) → σ0'.length ≤ q b) (hv : v0 = renV q 3 v) : CallR P ex f args σ v (σ ++ news) := by
  intro B μ w cargs hr hargs
  subst ha
  refine (h (old w) _ w cargs (hs.heap hr) (hargs.ren' (hs.back hr))).mono ?_
  rintro cv w' ⟨μ', q1, q2, q3, q4⟩
  have hbel : Blw B w w' := ⟨q4.os, q4.tape, q4.output, q4.size, fun k hk => q4.block k (hr.hB k hk)⟩
  have hr' := hr.below q4
  have hl := hr.len
  have hl' := q2.len
  obtain ⟨em, hem⟩ : ∃ em : List (Option Ent), em = (List.range news.length).map fun j => (μ'[ks j]?).join := ⟨_, rfl⟩
  have eml : em.length = news.length := by rw [hem]; simp
  have emg : ∀ j, j < news.length → em[j]? = some ((μ'[ks j]?).join) := by
    intro j hj
    rw [hem, List.getElem?_map, List.getElem?_range hj]
    rfl
  have hge : ∀ b (e : Ent), (μ ++ em)[b]? = some (some e) → (b < μ.length ∧ μ[b]? = some (some e)) ∨ (∃ j, j < news.length ∧ b = μ.length + j ∧ μ'[ks j]? = some (some e)) := by
    intro b e hb
    rcases Nat.lt_or_ge b μ.length with h' | h'
    · left; rw [List.getElem?_append_left h'] at hb; exact ⟨h', hb⟩
    · right
      rw [List.getElem?_append_right h'] at hb
      have hlt := lt_of_some hb
      rw [eml] at hlt
      rw [emg _ hlt] at hb
      refine ⟨b - μ.length, hlt, by omega, ?_⟩
      have hb2 := Option.some.inj hb
      cases hm : μ'[ks (b - μ.length)]? with
      | none => rw [hm] at hb2; cases hb2
      | some y => rw [hm] at hb2; exact congrArg some hb2
  have hnew : ∀ j, j < news.length → ∃ vs opn e, news[j]? = some (.row vs true opn) ∧ σ0'[ks j]? = some (.row (vs.map (renV q 3)) true opn) ∧ μ'[ks j]? = some (some e) := by
    intro j hj
    obtain ⟨vs, opn, e1, e2⟩ := hn j news[j] (List.getElem?_eq_getElem hj)
    obtain ⟨e, he⟩ := q2.has _ _ e2 rfl
    exact ⟨vs, opn, e, by rw [List.getElem?_eq_getElem hj, e1], e2, he⟩
  have hobj : ∀ b o, (σ ++ news)[b]? = some o → (b < σ.length ∧ σ[b]? = some o) ∨ (∃ j, j < news.length ∧ b = σ.length + j ∧ news[j]? = some o) := by
    intro b o hb
    rcases Nat.lt_or_ge b σ.length with h' | h'
    · left; rw [List.getElem?_append_left h'] at hb; exact ⟨h', hb⟩
    · right
      rw [List.getElem?_append_right h'] at hb
      exact ⟨b - σ.length, lt_of_some hb, by omega, hb⟩
  have hcb : ∀ j, j < news.length → ∀ e, μ'[ks j]? = some (some e) → w.heap.size ≤ e.cb := by
    intro j hj e he
    obtain ⟨vs, opn, e', _, g2, g3⟩ := hnew j hj
    obtain ⟨_, _, c, el, lo, hi, _, _, _, g5⟩ := q2.obj _ _ e g2 he
    have := (g5 rfl).1
    unfold old at this
    omega
  have hold : ∀ (b : Nat) (o : AObj) (e' : Ent), σ[b]? = some o → μ[b]? = some (some e') → o.live = true → e'.cb < w.heap.size := fun b o e' h1 h2 h3 => (hr.obj b o e' h1 h2).lt h3
  have hren : ∀ b e', μ'[q b]? = some (some e') → (μ ++ em)[b]? = some (some e') := by
    intro b e' hb
    by_cases hc : b < σ.length ∨ σ.length + news.length ≤ b
    · have := hq2 b hc
      have := lt_of_some hb
      omega
    · have hj : b - σ.length < news.length := by omega
      have e := hq1 _ hj
      rw [show σ.length + (b - σ.length) = b by omega] at e
      rw [e] at hb
      rw [List.getElem?_append_right (by omega), hl, emg _ hj, hb]
      rfl
  have hext : Ext μ (μ ++ em) := fun b hb => List.getElem?_append_left hb
  refine ⟨μ ++ em, ?_, ⟨by simp [hl, eml], fun k hk => by have := q4.size; have := hr.hB k hk; omega, fun b o hb hlv => ?_, fun b o e' hb he' => ?_, fun b b' o o' e1 e2 hb hb' he1 he2 ho hlv hc => ?_⟩, hext, hbel⟩
  · rw [hv] at q1
    exact VR.ren hren 3 _ _ q1
  · rcases hobj b o hb with ⟨h1, h2⟩ | ⟨j, hj, rfl, h2⟩
    · obtain ⟨e', he'⟩ := hr.has b o h2 hlv
      exact ⟨e', hext.sub _ _ he'⟩
    · obtain ⟨vs, opn, e, _, _, g3⟩ := hnew j hj
      refine ⟨e, hren _ _ ?_⟩
      rw [hq1 j hj]; exact g3
  · rcases hobj b o hb with ⟨h1, h2⟩ | ⟨j, hj, rfl, h2⟩
    · rcases hge b e' he' with ⟨g1, g2⟩ | ⟨j, hj, g1, g2⟩
      · exact (hr'.obj b o e' h2 g2).mono hext.sub (fun _ => rfl)
      · omega
    · rcases hge _ e' he' with ⟨g1, g2⟩ | ⟨j', hj', g1, g2⟩
      · omega
      · have ej : j' = j := by omega
        subst ej
        obtain ⟨vs, opn, e, k1, k2, k3⟩ := hnew j' hj'
        rw [k1] at h2
        cases h2
        obtain ⟨g0, g1', c, el, lo, hi, m2, m3, m4, m5⟩ := q2.obj _ _ e' k2 g2
        rw [List.length_map] at g0 m3 m4
        exact ⟨g0, g1', c, el, lo, hi, m2, m3, m4.ren' hren, fun h => ⟨fun hk => (m5 h).1 (hr.hB _ hk), (m5 h).2⟩⟩
  · rcases hobj b o hb with ⟨h1, h2⟩ | ⟨j, hj, rfl, h2⟩
    · rcases hge b e1 he1 with ⟨g1, g2⟩ | ⟨j, hj, g1, g2⟩
      · rcases hobj b' o' hb' with ⟨h1', h2'⟩ | ⟨j', hj', rfl, h2'⟩
        · rcases hge b' e2 he2 with ⟨g1', g2'⟩ | ⟨j', hj', g1', g2'⟩
          · exact hr.inj b b' o o' e1 e2 h2 h2' g2 g2' ho hlv hc
          · omega
        · rcases hge _ e2 he2 with ⟨g1', g2'⟩ | ⟨i, hi, g1', g2'⟩
          · omega
          · have a := hold b o e1 h2 g2 (by cases o <;> first | rfl | cases ho)
            have b := hcb i hi e2 g2'
            omega
      · omega
    · rcases hge _ e1 he1 with ⟨g1, g2⟩ | ⟨i, hi, g1, g2⟩
      · omega
      · rcases hobj b' o' hb' with ⟨h1', h2'⟩ | ⟨j', hj', rfl, h2'⟩
        · rcases hge b' e2 he2 with ⟨g1', g2'⟩ | ⟨i', hi', g1', g2'⟩
          · have a := hold b' o' e2 h2' g2' hlv
            have b := hcb i hi e1 g2
            omega
          · omega
        · rcases hge _ e2 he2 with ⟨g1', g2'⟩ | ⟨i', hi', g1', g2'⟩
          · omega
          · have ei : i = j := by omega
            have ei' : i' = j' := by omega
            subst ei ei'
            obtain ⟨vs, opn, e, k1, k2, k3⟩ := hnew i hi
            obtain ⟨vs', opn', e', k1', k2', k3'⟩ := hnew i' hi'
            have := q2.inj _ _ _ _ e1 e2 k2 k2' g2 g2' rfl rfl hc
            have := hinj i i' hi hi' this
            omega
end Go.Lk
end

section
/- A function along a path, with regions that are shown by themselves. -/
namespace Go.Lk
set_option linter.unusedSimpArgs false
set_option linter.unusedVariables false

def DOR (C : Cfg) (X : List Nat) (n : Nat) : Code → Nat → Orc → List Value → AHeap → ResO
  | .region id ops dr, t, orc, fr, σ =>
    bif X.contains id then
      match orc with
      | (k, .loop e fr' σ') :: rest =>
        bif Nat.beq k t then some ([Sim C σ.length (.region id ops dr) fr σ e fr' σ', σ.length ≤ σ'.length, Lk.Exit.isG e = false], e, t + 1, rest, fr', σ') else none
      | _ => none
    else DO C [] n (.region id ops dr) t orc fr σ
  | .seq a b, t, orc, fr, σ =>
    match DOR C X n a t orc fr σ with
    | some (ps, .normal, t1, orc1, fr1, σ1) =>
      match DOR C X n b t1 orc1 fr1 σ1 with
      | some (ps2, r) => some (ps ++ ps2, r)
      | none => none
    | r => r
  | c, t, orc, fr, σ => DO C [] n c t orc fr σ

/-- Are the others in order? -/
def codeOkR (C : Cfg) (X : List Nat) : Code → Bool
  | .region id ops draw => X.contains id || codeOkX C [] (.region id ops draw)
  | .seq a b => codeOkR C X a && codeOkR C X b
  | c => codeOkX C [] c

theorem DOR_sound {C : Cfg} (hC : C.Ok) (X : List Nat) (n : Nat) : ∀ (c : Code) (t : Nat) (orc : Orc) (fr : List Value) (σ : AHeap) {ps : List Prop} {e : Exit} {t' : Nat} {orc' : Orc} {fr' : List Value} {σ' : AHeap}, codeOkR C X c = true →
    DOR C X n c t orc fr σ = some (ps, e, t', orc', fr', σ') → All ps → GoodO C c fr σ e fr' σ' := by
  intro c
  induction c with
  | region id ops draw =>
    intro t orc fr σ ps e t' orc' fr' σ' hok h hp
    simp only [DOR] at h
    unfold codeOkR at hok
    generalize List.contains X id = c at h hok
    cases c with
    | true =>
      simp only [cond_true] at h
      split at h
      · rename_i k e1 fr1 σ1 rest
        generalize Nat.beq k t = c at h
        cases c with
        | true => cases h; exact ⟨hp.1, hp.2.1, hp.2.2.1⟩
        | false => cases h
      · cases h
    | false =>
      simp only [cond_false] at h
      rw [Bool.false_or] at hok
      exact DO_sound hC [] n _ t orc fr σ hok h hp
  | seq a b iha ihb =>
    intro t orc fr σ ps e t' orc' fr' σ' hok h hp
    simp only [codeOkR, Bool.and_eq_true] at hok
    simp only [DOR] at h
    split at h
    · rename_i h1
      split at h
      · rename_i h2
        cases h
        obtain ⟨a1, a2⟩ := All.append hp
        obtain ⟨g1, g2, g3⟩ := iha _ _ _ _ hok.1 h1 a1
        obtain ⟨k1, k2, k3⟩ := ihb _ _ _ _ hok.2 h2 a2
        exact ⟨g1.seq (k1.le g2), by omega, k3⟩
      · cases h
    · rename_i hno
      obtain ⟨g1, g2, g3⟩ := iha _ _ _ _ hok.1 h hp
      refine ⟨g1.seq_out ?_, g2, g3⟩
      cases e <;> first | rfl | skip
      exact absurd h (hno _ _ _ _ _)
  | _ => intro t orc fr σ ps e t' orc' fr' σ' hok h hp; exact DO_sound hC [] n _ t orc fr σ hok h hp

def DOfnR (C : Cfg) (X : List Nat) (n : Nat) (fn : Func) (args : List Value) (σ : AHeap) (orc : Orc) : Option (List Prop × Value × AHeap) :=
  match fn.body with
  | some body =>
    match DOR C X n body 0 orc (args ++ List.replicate (fn.ntmps - args.length) undef) σ with
    | some (ps, .normal, _, _, fr, σ1) => (match aResults C.P fn fr σ1 with | some v => some (ps, v, σ1) | none => none)
    | some (ps, .ret, _, _, fr, σ1) => (match aResults C.P fn fr σ1 with | some v => some (ps, v, σ1) | none => none)
    | _ => none
  | none => none
def fnOkR (C : Cfg) (X : List Nat) (fn : Func) : Bool := (match fn.body with | some b => codeOkR C X b | none => false) && !(fn.name == "runtime.NumGoroutine")
theorem DOfnR_sim {C : Cfg} (hC : C.Ok) {X : List Nat} {n : Nat} {fn : Func} {args : List Value} {σ σ1 : AHeap} {orc : Orc} {ps : List Prop} {v : Value} (hok : fnOkR C X fn = true) (h : DOfnR C X n fn args σ orc = some (ps, v, σ1)) (hp : All ps) :
    ∃ body e fr1, fn.body = some body ∧ Sim C σ.length body (args ++ List.replicate (fn.ntmps - args.length) undef) σ e fr1 σ1 ∧ (e = .normal ∨ e = .ret) ∧ aResults C.P fn fr1 σ1 = some v ∧ (fn.name == "runtime.NumGoroutine") = false := by
  unfold DOfnR at h
  unfold fnOkR at hok
  cases hb : fn.body with
  | none => rw [hb] at h; cases h
  | some body =>
    rw [hb] at h hok
    simp only [Bool.and_eq_true, Bool.not_eq_true'] at h hok
    split at h
    · rename_i hd
      split at h
      · rename_i hr; cases h; exact ⟨_, _, _, rfl, (DOR_sound hC X n _ _ _ _ _ hok.1 hd hp).1, .inl rfl, hr, hok.2⟩
      · cases h
    · rename_i hd
      split at h
      · rename_i hr; cases h; exact ⟨_, _, _, rfl, (DOR_sound hC X n _ _ _ _ _ hok.1 hd hp).1, .inr rfl, hr, hok.2⟩
      · cases h
    · cases h
theorem CallR.of_DORs {C : Cfg} (hC : C.Ok) {X : List Nat} {f : FuncId} {fn : Func} {args : List Value} {σ σ1 : AHeap} {v : Value} {n : Nat} {orc : Orc} {ps : List Prop}
    (hf : C.P.funcs[f]? = some fn) (hok : fnOkR C X fn = true) (h : DOfnR C X n fn args σ orc = some (ps, v, σ1)) (hp : Stood C.ex σ → All ps) : CallR C.P C.ex f args σ v σ1 := by
  intro B μ w cargs hr hargs
  obtain ⟨body, e, fr1, hb, h1, h2, h3, h4⟩ := DOfnR_sim hC hok h (hp ⟨B, μ, w, hr⟩)
  exact CallR.of_sim_raw hC hf hb h4 h1 h2 h3 B μ w cargs hr hargs
end Go.Lk
end
