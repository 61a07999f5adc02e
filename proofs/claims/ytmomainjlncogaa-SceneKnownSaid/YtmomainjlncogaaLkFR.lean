/- What a function does in a small heap it does in a greater one. -/
import Derived.Test.YtmomainjlncogaaLkQQ
namespace Go.Lk
set_option linter.unusedSimpArgs false
set_option linter.unusedVariables false

/-- The small heap's rows are rows of the great one; they are only read. -/
structure Reads (σ0 : AHeap) (r : Nat → Nat) (σ : AHeap) : Prop where
  row : ∀ b o, σ0[b]? = some o → ∃ vs opn rw, o = .row vs false opn ∧ σ[r b]? = some (.row vs rw opn) ∧ vs.all plain = true
  out : ∀ b, σ0.length ≤ b → σ.length ≤ r b

theorem VRs.plain_to {ex : Bool} {μ μ' : List (Option Ent)} {vs cs : List Value} (hp : vs.all plain = true) (h : VRs ex μ vs cs) : VRs ex μ' vs cs := h.plain_ren hp

theorem Reads.back {ex : Bool} {B : Nat → Prop} {μ : List (Option Ent)} {σ0 σ : AHeap} {w : World} {r : Nat → Nat} (h : HR ex B μ σ w) (hs : Reads σ0 r σ) : ∀ b e, μ[r b]? = some (some e) → (renM μ r σ0.length)[b]? = some (some e) := by
  intro b e hb
  refine renM_back ?_ hb
  rcases Nat.lt_or_ge b σ0.length with h' | h'
  · exact h'
  · have := hs.out b h'
    have := lt_of_some hb
    have := h.len
    omega
theorem Reads.heap {ex : Bool} {B : Nat → Prop} {μ : List (Option Ent)} {σ0 σ : AHeap} {w : World} {r : Nat → Nat} (h : HR ex B μ σ w) (hs : Reads σ0 r σ) : HR ex (old w) (renM μ r σ0.length) σ0 w := by
  refine ⟨by simp [renM], fun _ hk => hk, fun b o hb hl => ?_, fun b o e hb he => ?_, fun b b' o o' e e' hb hb' he he' ho hl hc => ?_⟩
  · obtain ⟨vs, opn, rw', rfl, h2, h3⟩ := hs.row b o hb
    obtain ⟨e, he⟩ := h.has _ _ h2 rfl
    exact ⟨e, hs.back h b e he⟩
  · obtain ⟨vs, opn, rw', rfl, h2, h3⟩ := hs.row b o hb
    obtain ⟨_, hm⟩ := renM_some he
    obtain ⟨g0, g1, c, el, lo, hi, g2, g3, g4, g5⟩ := h.obj _ _ _ h2 hm
    exact ⟨g0, g1, c, el, lo, hi, g2, g3, g4.plain_to h3, fun h => by cases h⟩
  · obtain ⟨vs, opn, rw', rfl, h2, h3⟩ := hs.row b o hb
    cases ho

theorem VRs.ren' {ex : Bool} {μ1 μ' : List (Option Ent)} {r : Nat → Nat} (hr : ∀ b e, μ1[r b]? = some (some e) → μ'[b]? = some (some e)) {vs cs : List Value} (h : VRs ex μ1 (vs.map (renV r 3)) cs) : VRs ex μ' vs cs :=
  VRs.ren (fun v c => VR.ren hr 3 v c) h

/-- A quiet function. -/
theorem CallR.frameQ {P : Program} {ex : Bool} {f : FuncId} {args0 args : List Value} {σ0 σ0' σ : AHeap} {v : Value} {r : Nat → Nat} (hs : Reads σ0 r σ) (ha : args0.map (renV r 3) = args)
    (h : CallR P ex f args0 σ0 v σ0') (hv : plain v = true) : CallR P ex f args σ v σ := by
  intro B μ w cargs hr hargs
  subst ha
  refine (h (old w) _ w cargs (hs.heap hr) (hargs.ren' (hs.back hr))).mono ?_
  rintro cv w' ⟨μ', q1, q2, q3, q4⟩
  exact ⟨μ, q1.plain_ren hv, hr.below q4, Ext.refl _, ⟨q4.os, q4.tape, q4.output, q4.size, fun k hk => q4.block k (hr.hB k hk)⟩⟩

/-- A function that makes one new row (block k of the small heap) and hands it out. -/
theorem CallR.frameN {P : Program} {ex : Bool} {f : FuncId} {args0 args : List Value} {σ0 σ0' σ : AHeap} {v v0 : Value} {r q : Nat → Nat} {k : Nat} {vs : List Value} {opn : Option Nat} (hs : Reads σ0 r σ) (ha : args0.map (renV r 3) = args)
    (h : CallR P ex f args0 σ0 v0 σ0') (hk : σ0'[k]? = some (.row vs true opn)) (hp : vs.all plain = true) (hq : ∀ b, q b = if b = σ.length then k else b + σ0'.length) (hv : v0 = renV q 3 v) : CallR P ex f args σ v (σ ++ [.row vs true opn]) := by
  intro B μ w cargs hr hargs
  subst ha
  refine (h (old w) _ w cargs (hs.heap hr) (hargs.ren' (hs.back hr))).mono ?_
  rintro cv w' ⟨μ', q1, q2, q3, q4⟩
  obtain ⟨e, he⟩ := q2.has k _ hk rfl
  have hob := q2.obj k _ e hk he
  have hsz : w.heap.size ≤ e.cb := by
    obtain ⟨_, _, c, el, lo, hi, _, _, _, g5⟩ := hob
    have := (g5 rfl).1
    unfold old at this
    omega
  have hbel : Blw B w w' := ⟨q4.os, q4.tape, q4.output, q4.size, fun k hk => q4.block k (hr.hB k hk)⟩
  have hr' := hr.below q4
  have hnew : ∀ b (e' : Ent), (μ ++ [some e])[b]? = some (some e') → (b < μ.length ∧ μ[b]? = some (some e')) ∨ (b = μ.length ∧ e' = e) := by
    intro b e' hb
    rcases Nat.lt_or_ge b μ.length with h' | h'
    · left; rw [List.getElem?_append_left h'] at hb; exact ⟨h', hb⟩
    · right
      rw [List.getElem?_append_right h'] at hb
      have hlt := lt_of_some hb
      simp only [List.length_singleton] at hlt
      have h0 : b - μ.length = 0 := by omega
      rw [h0] at hb
      simp only [List.getElem?_cons_zero, Option.some.injEq] at hb
      exact ⟨by omega, hb.symm⟩
  have hobj : ∀ b o, (σ ++ [AObj.row vs true opn])[b]? = some o → (b < σ.length ∧ σ[b]? = some o) ∨ (b = σ.length ∧ o = .row vs true opn) := by
    intro b o hb
    rcases Nat.lt_or_ge b σ.length with h' | h'
    · left; rw [List.getElem?_append_left h'] at hb; exact ⟨h', hb⟩
    · right
      rw [List.getElem?_append_right h'] at hb
      have hlt := lt_of_some hb
      simp only [List.length_singleton] at hlt
      have h0 : b - σ.length = 0 := by omega
      rw [h0] at hb
      simp only [List.getElem?_cons_zero, Option.some.injEq] at hb
      exact ⟨by omega, hb.symm⟩
  have hl := hr.len
  have old : ∀ (b : Nat) (o : AObj) (e' : Ent), σ[b]? = some o → μ[b]? = some (some e') → o.live = true → e'.cb < w.heap.size := fun b o e' h1 h2 h3 => (hr.obj b o e' h1 h2).lt h3
  refine ⟨μ ++ [some e], ?_, ⟨by simp [hl], fun k hk => by have := q4.size; have := hr.hB k hk; omega, fun b o hb hlv => ?_, fun b o e' hb he' => ?_, fun b b' o o' e1 e2 hb hb' he1 he2 ho hlv hc => ?_⟩, Ext.snoc _ _, hbel⟩
  · rw [hv] at q1
    refine VR.ren (r := q) (fun b e' hb => ?_) 3 _ _ q1
    rw [hq] at hb
    split at hb
    · rename_i h1
      rw [he] at hb
      cases hb
      rw [List.getElem?_append_right (by omega), h1, ← hl]
      simp
    · have := lt_of_some hb
      have := q2.len
      omega
  · rcases hobj b o hb with ⟨h1, h2⟩ | ⟨h1, rfl⟩
    · obtain ⟨e', he'⟩ := hr.has b o h2 hlv
      exact ⟨e', by rw [List.getElem?_append_left (by omega)]; exact he'⟩
    · exact ⟨e, by rw [List.getElem?_append_right (by omega), h1, ← hl]; simp⟩
  · rcases hobj b o hb with ⟨h1, h2⟩ | ⟨h1, rfl⟩
    · rcases hnew b e' he' with ⟨g1, g2⟩ | ⟨g1, g2⟩
      · refine (hr'.obj b o e' h2 g2).mono (Sub.snoc _ _) (fun _ => rfl)
      · omega
    · rcases hnew b e' he' with ⟨g1, g2⟩ | ⟨g1, rfl⟩
      · omega
      · obtain ⟨g0, g1', c, el, lo, hi, g2, g3, g4, g5⟩ := hob
        exact ⟨g0, g1', c, el, lo, hi, g2, g3, g4.plain_to hp, fun h => ⟨fun hk => by have := hr.hB _ hk; omega, (g5 h).2⟩⟩
  · rcases hobj b o hb with ⟨h1, h2⟩ | ⟨h1, rfl⟩
    · rcases hnew b e1 he1 with ⟨g1, g2⟩ | ⟨g1, g2⟩
      · rcases hobj b' o' hb' with ⟨h1', h2'⟩ | ⟨h1', rfl⟩
        · rcases hnew b' e2 he2 with ⟨g1', g2'⟩ | ⟨g1', g2'⟩
          · exact hr.inj b b' o o' e1 e2 h2 h2' g2 g2' ho hlv hc
          · omega
        · rcases hnew b' e2 he2 with ⟨g1', g2'⟩ | ⟨g1', rfl⟩
          · omega
          · have := old b o e1 h2 g2 (by cases o <;> first | rfl | cases ho)
            omega
      · omega
    · rcases hnew b e1 he1 with ⟨g1, g2⟩ | ⟨g1, rfl⟩
      · omega
      · rcases hobj b' o' hb' with ⟨h1', h2'⟩ | ⟨h1', rfl⟩
        · rcases hnew b' e2 he2 with ⟨g1', g2'⟩ | ⟨g1', g2'⟩
          · have := old b' o' e2 h2' g2' hlv
            omega
          · omega
        · omega
end Go.Lk
