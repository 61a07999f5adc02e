/- A function that writes into rows: what stands elsewhere is as it was. -/
import Derived.Test.YtmomainjlncogaaLkFR
import Derived.Test.YtmomainjlncogaaLkLQ
namespace Go.Lk
set_option linter.unusedSimpArgs false
set_option linter.unusedVariables false

theorem Stood.none {ex : Bool} {σ : AHeap} (h : Stood ex σ) : Stood ex [] := by
  obtain ⟨B, μ, w, h⟩ := h
  exact ⟨B, [], w, rfl, h.hB, fun b o hb => by simp at hb, fun b o e hb => by simp at hb, fun b b' o o' e e' hb => by simp at hb⟩
/-- Is the small heap's block k one that may be written? -/
def wrk (σ0 : AHeap) (k : Nat) : Bool := match σ0[k]? with | some (.row _ true _) => true | _ => false
theorem wrk_of {σ0 : AHeap} {k : Nat} {vs : List Value} {opn : Option Nat} (h : σ0[k]? = some (.row vs true opn)) : wrk σ0 k = true := by unfold wrk; rw [h]
theorem wrk_row {σ0 : AHeap} {k : Nat} (h : wrk σ0 k = true) : ∃ vs opn, σ0[k]? = some (.row vs true opn) := by
  unfold wrk at h
  split at h
  · rename_i vs opn hk; exact ⟨_, _, hk⟩
  · cases h

/-- The small heap's rows are rows of the great one. -/
structure Part (σ0 : AHeap) (r : Nat → Nat) (σ : AHeap) : Prop where
  row : ∀ b o, σ0[b]? = some o → ∃ vs rw rw' opn, o = .row vs rw opn ∧ σ[r b]? = some (.row vs rw' opn) ∧ (rw = true → rw' = true) ∧ vs.all plain = true
  inj : ∀ b b', b < σ0.length → b' < σ0.length → r b = r b' → b = b'
  out : ∀ b, σ0.length ≤ b → σ.length ≤ r b

/-- What the small call must not touch. -/
def rest (B : Nat → Prop) (μ : List (Option Ent)) (σ0 : AHeap) (r : Nat → Nat) (w : World) : Nat → Prop :=
  fun c => B c ∨ (c < w.heap.size ∧ ∀ k e, wrk σ0 k = true → μ[r k]? = some (some e) → e.cb ≠ c)

theorem Part.back {ex : Bool} {B : Nat → Prop} {μ : List (Option Ent)} {σ0 σ : AHeap} {w : World} {r : Nat → Nat} (h : HR ex B μ σ w) (hs : Part σ0 r σ) : ∀ b e, μ[r b]? = some (some e) → (renM μ r σ0.length)[b]? = some (some e) := by
  intro b e hb
  refine renM_back ?_ hb
  rcases Nat.lt_or_ge b σ0.length with h' | h'
  · exact h'
  · have := hs.out b h'
    have := lt_of_some hb
    have := h.len
    omega

theorem Part.heap {ex : Bool} {B : Nat → Prop} {μ : List (Option Ent)} {σ0 σ : AHeap} {w : World} {r : Nat → Nat} (h : HR ex B μ σ w) (hs : Part σ0 r σ) : HR ex (rest B μ σ0 r w) (renM μ r σ0.length) σ0 w := by
  refine ⟨by simp [renM], fun k hk => ?_, fun b o hb hl => ?_, fun b o e hb he => ?_, fun b b' o o' e e' hb hb' he he' ho hl hc => ?_⟩
  · rcases hk with hk | hk
    · exact h.hB k hk
    · exact hk.1
  · obtain ⟨vs, rw, rw', opn, rfl, h2, h3, h4⟩ := hs.row b o hb
    obtain ⟨e, he⟩ := h.has _ _ h2 rfl
    exact ⟨e, hs.back h b e he⟩
  · obtain ⟨vs, rw, rw', opn, rfl, h2, h3, h4⟩ := hs.row b o hb
    obtain ⟨_, hm⟩ := renM_some he
    obtain ⟨g0, g1, c, el, lo, hi, g2, g3, g4, g5⟩ := h.obj _ _ _ h2 hm
    refine ⟨g0, g1, c, el, lo, hi, g2, g3, g4.plain_to h4, fun hw => ⟨?_, (g5 (h3 hw)).2⟩⟩
    rintro (hb1 | hb1)
    · exact (g5 (h3 hw)).1 hb1
    · subst hw
      exact hb1.2 b e (wrk_of hb) hm rfl
  · obtain ⟨vs, rw, rw', opn, rfl, h2, h3, h4⟩ := hs.row b o hb
    obtain ⟨vs2, rw2, rw2', opn2, rfl, k2, k3, k4⟩ := hs.row b' o' hb'
    obtain ⟨_, hm⟩ := renM_some he
    obtain ⟨_, hm'⟩ := renM_some he'
    have hw : rw = true := by simpa [AObj.owned] using ho
    have := h.inj _ _ _ _ _ _ h2 k2 hm hm' (by simp [AObj.owned, h3 hw]) rfl hc
    exact hs.inj _ _ (lt_of_some hb) (lt_of_some hb') this

/-- A function that writes into rows and hands out what is plain. -/
theorem CallR.frameW {P : Program} {ex : Bool} {f : FuncId} {args0 args : List Value} {σ0 σ0' σ σ' : AHeap} {v : Value} {r : Nat → Nat} (hs : Part σ0 r σ) (ha : args0.map (renV r 3) = args)
    (h : CallR P ex f args0 σ0 v σ0') (hv : plain v = true) (hl : σ'.length = σ.length)
    (hσ : ∀ b o, σ'[b]? = some o → o = .dead ∨ (σ[b]? = some o ∧ ∀ k, wrk σ0 k = true → r k ≠ b) ∨ (∃ k us rw2 opn2, r k = b ∧ wrk σ0 k = true ∧ σ0'[k]? = some o ∧ o = .row us rw2 opn2 ∧ us.all plain = true)) : CallR P ex f args σ v σ' := by
  intro B μ w cargs hr hargs
  subst ha
  refine (h (rest B μ σ0 r w) _ w cargs (hs.heap hr) (hargs.ren' (hs.back hr))).mono ?_
  rintro cv w' ⟨μ', q1, q2, q3, q4⟩
  have hoff : ∀ (b : Nat) (o : AObj) (e : Ent), σ[b]? = some o → o.live = true → μ[b]? = some (some e) → (∀ k, wrk σ0 k = true → r k ≠ b) → w'.heap[e.cb]? = w.heap[e.cb]? := by
    intro b o e hb hlv he hk
    refine q4.block _ (.inr ⟨(hr.obj b o e hb he).lt hlv, fun k e' hw hm hc => ?_⟩)
    obtain ⟨vs, opn, hk0⟩ := wrk_row hw
    obtain ⟨vs', rw, rw', opn', h1, h2, h3, h4⟩ := hs.row k _ hk0
    cases h1
    exact hk k hw (hr.inj _ _ _ _ _ _ h2 hb hm he (by simp [AObj.owned, h3 rfl]) hlv hc)
  have hnew : ∀ (k : Nat) (e : Ent), k < σ0.length → μ[r k]? = some (some e) → μ'[k]? = some (some e) := by
    intro k e hk he
    rw [q3 k (by simp [renM]; exact hk)]
    exact hs.back hr k e he
  -- what stood at b before
  have hwas : ∀ (b : Nat) (o : AObj), σ'[b]? = some o → o.live = true → ∃ (o0 : AObj), σ[b]? = some o0 ∧ o0.live = true ∧ (o.owned = true → o0.owned = true) := by
    intro b o hb hlv
    rcases hσ b o hb with rfl | ⟨h1, _⟩ | ⟨k, us, rw2, opn2, rfl, hw, h1, _, _⟩
    · cases hlv
    · exact ⟨o, h1, hlv, id⟩
    · obtain ⟨vs, opn, hk0⟩ := wrk_row hw
      obtain ⟨vs', rw, rw', opn', h2, h3, h4, h5⟩ := hs.row k _ hk0
      cases h2
      exact ⟨_, h3, rfl, fun _ => by simp [AObj.owned, h4 rfl]⟩
  refine ⟨μ, q1.plain_ren hv, ⟨by rw [hl]; exact hr.len, fun k hk => Nat.lt_of_lt_of_le (hr.hB k hk) q4.size, fun b o hb hlv => ?_, fun b o e hb he => ?_, fun b b' o o' e e' hb hb' he he' ho hlv hc => ?_⟩, Ext.refl _, ⟨q4.os, q4.tape, q4.output, q4.size, fun k hk => q4.block k (.inl hk)⟩⟩
  · obtain ⟨o0, h1, h2, _⟩ := hwas b o hb hlv
    exact hr.has b o0 h1 h2
  · rcases hσ b o hb with rfl | ⟨h1, h2⟩ | ⟨k, us, rw2, opn2, rfl, hw, h1, rfl, hp⟩
    · trivial
    · exact (hr.obj b o e h1 he).mono (Sub.refl _) (fun hlv => hoff b o e h1 hlv he h2)
    · obtain ⟨vs, opn, hk0⟩ := wrk_row hw
      have hm := hnew k e (lt_of_some hk0) he
      obtain ⟨vs', rw, rw', opn', h2, h3, h4, h5⟩ := hs.row k _ hk0
      cases h2
      have hq := q2.obj k _ e h1 hm
      obtain ⟨g0, g1, c, el, lo, hi, g2, g3, g4, g5⟩ := hq
      obtain ⟨_, _, _, _, _, _, _, _, _, f5⟩ := hr.obj _ _ _ h3 he
      exact ⟨g0, g1, c, el, lo, hi, g2, g3, g4.plain_to hp, fun h => ⟨(f5 (h4 rfl)).1, (g5 h).2⟩⟩
  · have hlo : o.live = true := by cases o <;> first | rfl | cases ho
    obtain ⟨o0, h1, h2, h3⟩ := hwas b o hb hlo
    obtain ⟨o1, k1, k2, k3⟩ := hwas b' o' hb' hlv
    exact hr.inj b b' o0 o1 e e' h1 k1 he he' (h3 ho) k2 hc

/-! ### A row without spare room is one of unknown spare room -/
/-- Entries that say no more. -/
def Loose (μ μ2 : List (Option Ent)) : Prop := ∀ (b : Nat) (e : Ent), μ[b]? = some (some e) → ∃ (e2 : Ent), μ2[b]? = some (some e2) ∧ e2.cb = e.cb ∧ e2.base = e.base ∧ (e2 = e ∨ e.xtra = 0)
theorem VR.loose {ex : Bool} {μ μ2 : List (Option Ent)} (hs : Loose μ μ2) {a c : Value} (h : VR ex μ a c) : VR ex μ2 a c := by
  induction h with
  | bool b => exact .bool b
  | int k n => exact .int k n
  | float k x => exact .float k x
  | complex k x y => exact .complex k x y
  | string s => exact .string s
  | pnil => exact .pnil
  | ptr h => obtain ⟨e2, h2, h3, h4, _⟩ := hs _ _ h; rw [← h3, ← h4]; exact .ptr h2
  | snil l c => exact .snil l c
  | slice h hc =>
    obtain ⟨e2, h2, h3, h4, h5⟩ := hs _ _ h
    rw [← h3, ← h4]
    rcases h5 with rfl | h5
    · exact .slice h2 hc
    · refine .slice h2 (.inl ?_)
      rcases hc with hc | hc
      · exact hc
      · have := hc.2.2; omega
  | sempty h a => obtain ⟨e2, h2, _⟩ := hs _ _ h; exact .sempty h2 a
  | func fn hf hc _ _ ih1 ih2 => exact .func fn hf hc ih1 ih2
  | nilFunc => exact .nilFunc
  | iface t _ ih => exact .iface t ih
  | nilIface => exact .nilIface
  | agg hc _ ih => exact .agg hc ih
  | tuple hc _ ih => exact .tuple hc ih
  | mapNil => exact .mapNil

theorem CallR.loosen {P : Program} {ex : Bool} {f : FuncId} {args : List Value} {σ : AHeap} {v : Value} {vs : List Value} (z : Nat) (hp : vs.all plain = true) (h : CallR P ex f args σ v (σ ++ [.row vs true none])) :
    CallR P ex f args σ v (σ ++ [.row vs true (some z)]) := by
  intro B μ w cargs hr hargs
  refine (h B μ w cargs hr hargs).mono ?_
  rintro cv w' ⟨μ', q1, q2, q3, q4⟩
  have hln := q2.len
  have hl0 := hr.len
  simp only [List.length_append, List.length_singleton] at hln
  have hrow : (σ ++ [AObj.row vs true none])[σ.length]? = some (.row vs true none) := by simp
  obtain ⟨e, he⟩ := q2.has _ _ hrow rfl
  obtain ⟨g0, g1, c, el, lo, hi, g2, g3, g4, g5⟩ := q2.obj _ _ e hrow he
  have hx : e.xtra = 0 := g1
  have hset : ∀ b (e2 : Ent), (μ'.set σ.length (some { e with esz := z }))[b]? = some (some e2) → (b = σ.length ∧ e2 = { e with esz := z }) ∨ (b ≠ σ.length ∧ μ'[b]? = some (some e2)) := by
    intro b e2 hb
    rw [List.getElem?_set] at hb
    by_cases hk : σ.length = b
    · rw [if_pos hk, if_pos (by omega)] at hb
      cases hb; exact .inl ⟨hk.symm, rfl⟩
    · rw [if_neg hk] at hb; exact .inr ⟨fun h => hk h.symm, hb⟩
  have hself : (μ'.set σ.length (some { e with esz := z }))[σ.length]? = some (some { e with esz := z }) := by
    rw [List.getElem?_set, if_pos rfl, if_pos (by omega)]
  have hls : Loose μ' (μ'.set σ.length (some { e with esz := z })) := by
    intro b e1 hb
    by_cases hk : b = σ.length
    · subst hk
      rw [he] at hb
      cases hb
      exact ⟨_, hself, rfl, rfl, .inr hx⟩
    · exact ⟨e1, by rw [List.getElem?_set, if_neg (fun h => hk h.symm)]; exact hb, rfl, rfl, .inl rfl⟩
  have hold : ∀ (b : Nat) (o : AObj), (σ ++ [AObj.row vs true (some z)])[b]? = some o → (b = σ.length ∧ o = .row vs true (some z)) ∨ (b < σ.length ∧ (σ ++ [AObj.row vs true none])[b]? = some o) := by
    intro b o hb
    rcases Nat.lt_or_ge b σ.length with h' | h'
    · right
      rw [List.getElem?_append_left h'] at hb ⊢
      exact ⟨h', hb⟩
    · left
      have hlt := lt_of_some hb
      simp only [List.length_append, List.length_singleton] at hlt
      have e0 : b = σ.length := by omega
      subst e0
      simp at hb
      exact ⟨rfl, hb.symm⟩
  -- what an object of the new heap was in the other one
  have was : ∀ (b : Nat) (o : AObj) (e2 : Ent), (σ ++ [AObj.row vs true (some z)])[b]? = some o → (μ'.set σ.length (some { e with esz := z }))[b]? = some (some e2) →
      ∃ (o1 : AObj) (e1 : Ent), (σ ++ [AObj.row vs true none])[b]? = some o1 ∧ μ'[b]? = some (some e1) ∧ e1.cb = e2.cb ∧ o1.owned = o.owned ∧ o1.live = o.live := by
    intro b o e2 hb hm
    rcases hold b o hb with ⟨rfl, rfl⟩ | ⟨hlt, h1⟩
    · rcases hset _ _ hm with ⟨_, rfl⟩ | ⟨hne, _⟩
      · exact ⟨_, e, hrow, he, rfl, rfl, rfl⟩
      · exact absurd rfl hne
    · rcases hset _ _ hm with ⟨rfl, _⟩ | ⟨_, h2⟩
      · omega
      · exact ⟨o, e2, h1, h2, rfl, rfl, rfl⟩
  refine ⟨μ'.set σ.length (some { e with esz := z }), q1.loose hls, ⟨by simp [hln], q2.hB, fun b o hb hlv => ?_, fun b o e2 hb hm => ?_, fun b b' o o' e1 e2 hb hb' hm hm' ho hlv hc => ?_⟩, fun b hb => ?_, q4⟩
  · rcases hold b o hb with ⟨rfl, rfl⟩ | ⟨hlt, h1⟩
    · exact ⟨_, hself⟩
    · obtain ⟨e1, h2⟩ := q2.has b o h1 hlv
      exact ⟨e1, by rw [List.getElem?_set, if_neg (by omega)]; exact h2⟩
  · rcases hold b o hb with ⟨rfl, rfl⟩ | ⟨hlt, h1⟩
    · rcases hset _ _ hm with ⟨_, rfl⟩ | ⟨hne, _⟩
      · refine ⟨g0, rfl, c, el, lo, hi, g2, ?_, g4.plain_to hp, g5⟩
        show e.base + vs.length + e.xtra * z ≤ c.size
        rw [hx] at g3 ⊢
        simpa using g3
      · exact absurd rfl hne
    · rcases hset _ _ hm with ⟨rfl, _⟩ | ⟨_, h2⟩
      · omega
      · have hq := q2.obj b o e2 h1 h2
        cases o with
        | dead => trivial
        | iter s p => exact hq
        | row us rw2 opn2 =>
          obtain ⟨k0, k1, c', el', lo', hi', k2, k3, k4, k5⟩ := hq
          exact ⟨k0, k1, c', el', lo', hi', k2, k3, ⟨k4.1, fun i a ha => let ⟨y, hy, hv⟩ := k4.2 i a ha; ⟨y, hy, hv.loose hls⟩⟩, k5⟩
  · obtain ⟨o1, e1', h1, h2, h3, h4, h5⟩ := was b o e1 hb hm
    obtain ⟨o2, e2', k1, k2, k3, k4, k5⟩ := was b' o' e2 hb' hm'
    exact q2.inj b b' o1 o2 e1' e2' h1 k1 h2 k2 (by rw [h4]; exact ho) (by rw [k5]; exact hlv) (by rw [h3, k3]; exact hc)
  · rw [List.getElem?_set, if_neg (by omega)]
    exact q3 b hb
end Go.Lk
