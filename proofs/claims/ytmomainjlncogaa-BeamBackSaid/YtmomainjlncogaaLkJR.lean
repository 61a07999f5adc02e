import Derived.Test.YtmomainjlncogaaLkJB
import Derived.Test.YtmomainjlncogaaLkJC
section
/- A function that writes into rows: what stands elsewhere is as it was. -/
namespace Go.Lk
set_option linter.unusedSimpArgs false
set_option linter.unusedVariables false

theorem Stood.none {ex : Bool} {σ : AHeap} (h : Stood ex σ) : Stood ex [] := by
  obtain ⟨B, μ, w, h⟩ := h
  exact ⟨B, [], w, rfl, h.hB, fun b o hb => by simp at hb, fun b o e hb => by simp at hb, fun b b' o o' e e' hb => by simp at hb⟩
/-- Is the small heap's block k one that may be written? -/
def wrk (σ0 : AHeap) (k : Nat) : Bool := match σ0[k]? with | some (.row _ true _) => true | _ => false
theorem wrk_of {σ0 : AHeap} {k : Nat} {vs : List Value} {opn : Option Nat} (h : σ0[k]? = some (.row vs true opn)) : wrk σ0 k = true := by unfold wrk; rw [h]
theorem wrk_row {σ0 : AHeap} {k : Nat} (h : wrk σ0 k = true) : ∃ vs opn, σ0[k]? = some (.row vs true opn) := by
  unfold wrk at h
  split at h
  · rename_i vs opn hk; exact ⟨_, _, hk⟩
  · cases h

/-- The small heap's rows are rows of the great one. -/
structure Part (σ0 : AHeap) (r : Nat → Nat) (σ : AHeap) : Prop where
  row : ∀ b o, σ0[b]? = some o → ∃ vs rw rw' opn, o = .row vs rw opn ∧ σ[r b]? = some (.row vs rw' opn) ∧ (rw = true → rw' = true) ∧ vs.all plain = true
  inj : ∀ b b', b < σ0.length → b' < σ0.length → r b = r b' → b = b'
  out : ∀ b, σ0.length ≤ b → σ.length ≤ r b

/-- What the small call must not touch. -/
def rest (B : Nat → Prop) (μ : List (Option Ent)) (σ0 : AHeap) (r : Nat → Nat) (w : World) : Nat → Prop :=
  fun c => B c ∨ (c < w.heap.size ∧ ∀ k e, wrk σ0 k = true → μ[r k]? = some (some e) → e.cb ≠ c)

theorem Part.back {ex : Bool} {B : Nat → Prop} {μ : List (Option Ent)} {σ0 σ : AHeap} {w : World} {r : Nat → Nat} (h : HR ex B μ σ w) (hs : Part σ0 r σ) : ∀ b e, μ[r b]? = some (some e) → (renM μ r σ0.length)[b]? = some (some e) := by
  intro b e hb
  refine renM_back ?_ hb
  rcases Nat.lt_or_ge b σ0.length with h' | h'
  · exact h'
  · have := hs.out b h'
    have := lt_of_some hb
    have := h.len
    omega

theorem Part.heap {ex : Bool} {B : Nat → Prop} {μ : List (Option Ent)} {σ0 σ : AHeap} {w : World} {r : Nat → Nat} (h : HR ex B μ σ w) (hs : Part σ0 r σ) : HR ex (rest B μ σ0 r w) (renM μ r σ0.length) σ0 w := by
  refine ⟨by simp [renM], fun k hk => ?_, fun b o hb hl => ?_, fun b o e hb he => ?_, fun b b' o o' e e' hb hb' he he' ho hl hc => ?_⟩
  · rcases hk with hk | hk
    · exact h.hB k hk
    · exact hk.1
  · obtain ⟨vs, rw, rw', opn, rfl, h2, h3, h4⟩ := hs.row b o hb
    obtain ⟨e, he⟩ := h.has _ _ h2 rfl
    exact ⟨e, hs.back h b e he⟩
  · obtain ⟨vs, rw, rw', opn, rfl, h2, h3, h4⟩ := hs.row b o hb
    obtain ⟨_, hm⟩ := renM_some he
    obtain ⟨g0, g1, c, el, lo, hi, g2, g3, g4, g5⟩ := h.obj _ _ _ h2 hm
    refine ⟨g0, g1, c, el, lo, hi, g2, g3, g4.plain_to h4, fun hw => ⟨?_, (g5 (h3 hw)).2⟩⟩
    rintro (hb1 | hb1)
    · exact (g5 (h3 hw)).1 hb1
    · subst hw
      exact hb1.2 b e (wrk_of hb) hm rfl
  · obtain ⟨vs, rw, rw', opn, rfl, h2, h3, h4⟩ := hs.row b o hb
    obtain ⟨vs2, rw2, rw2', opn2, rfl, k2, k3, k4⟩ := hs.row b' o' hb'
    obtain ⟨_, hm⟩ := renM_some he
    obtain ⟨_, hm'⟩ := renM_some he'
    have hw : rw = true := by simpa [AObj.owned] using ho
    have := h.inj _ _ _ _ _ _ h2 k2 hm hm' (by simp [AObj.owned, h3 hw]) rfl hc
    exact hs.inj _ _ (lt_of_some hb) (lt_of_some hb') this

/-- A function that writes into rows and hands out what is plain. -/
theorem CallR.frameW {P : Program} {ex : Bool} {f : FuncId} {args0 args : List Value} {σ0 σ0' σ σ' : AHeap} {v : Value} {r : Nat → Nat} (hs : Part σ0 r σ) (ha : args0.map (renV r 3) = args)
    (h : CallR P ex f args0 σ0 v σ0') (hv : plain v = true) (hl : σ'.length = σ.length)
    (hσ : ∀ b o, σ'[b]? = some o → o = .dead ∨ (σ[b]? = some o ∧ ∀ k, wrk σ0 k = true → r k ≠ b) ∨ (∃ k us rw2 opn2, r k = b ∧ wrk σ0 k = true ∧ σ0'[k]? = some o ∧ o = .row us rw2 opn2 ∧ us.all plain = true)) : CallR P ex f args σ v σ' := by
  intro B μ w cargs hr hargs
  subst ha
  refine (h (rest B μ σ0 r w) _ w cargs (hs.heap hr) (hargs.ren' (hs.back hr))).mono ?_
  rintro cv w' ⟨μ', q1, q2, q3, q4⟩
  have hoff : ∀ (b : Nat) (o : AObj) (e : Ent), σ[b]? = some o → o.live = true → μ[b]? = some (some e) → (∀ k, wrk σ0 k = true → r k ≠ b) → w'.heap[e.cb]? = w.heap[e.cb]? := by
    intro b o e hb hlv he hk
    refine q4.block _ (.inr ⟨(hr.obj b o e hb he).lt hlv, fun k e' hw hm hc => ?_⟩)
    obtain ⟨vs, opn, hk0⟩ := wrk_row hw
    obtain ⟨vs', rw, rw', opn', h1, h2, h3, h4⟩ := hs.row k _ hk0
    cases h1
    exact hk k hw (hr.inj _ _ _ _ _ _ h2 hb hm he (by simp [AObj.owned, h3 rfl]) hlv hc)
  have hnew : ∀ (k : Nat) (e : Ent), k < σ0.length → μ[r k]? = some (some e) → μ'[k]? = some (some e) := by
    intro k e hk he
    rw [q3 k (by simp [renM]; exact hk)]
    exact hs.back hr k e he
  -- what stood at b before
  have hwas : ∀ (b : Nat) (o : AObj), σ'[b]? = some o → o.live = true → ∃ (o0 : AObj), σ[b]? = some o0 ∧ o0.live = true ∧ (o.owned = true → o0.owned = true) := by
    intro b o hb hlv
    rcases hσ b o hb with rfl | ⟨h1, _⟩ | ⟨k, us, rw2, opn2, rfl, hw, h1, _, _⟩
    · cases hlv
    · exact ⟨o, h1, hlv, id⟩
    · obtain ⟨vs, opn, hk0⟩ := wrk_row hw
      obtain ⟨vs', rw, rw', opn', h2, h3, h4, h5⟩ := hs.row k _ hk0
      cases h2
      exact ⟨_, h3, rfl, fun _ => by simp [AObj.owned, h4 rfl]⟩
  refine ⟨μ, q1.plain_ren hv, ⟨by rw [hl]; exact hr.len, fun k hk => Nat.lt_of_lt_of_le (hr.hB k hk) q4.size, fun b o hb hlv => ?_, fun b o e hb he => ?_, fun b b' o o' e e' hb hb' he he' ho hlv hc => ?_⟩, Ext.refl _, ⟨q4.os, q4.tape, q4.output, q4.size, fun k hk => q4.block k (.inl hk)⟩⟩
  · obtain ⟨o0, h1, h2, _⟩ := hwas b o hb hlv
    exact hr.has b o0 h1 h2
  · rcases hσ b o hb with rfl | ⟨h1, h2⟩ | ⟨k, us, rw2, opn2, rfl, hw, h1, rfl, hp⟩
    · trivial
    · exact (hr.obj b o e h1 he).mono (Sub.refl _) (fun hlv => hoff b o e h1 hlv he h2)
    · obtain ⟨vs, opn, hk0⟩ := wrk_row hw
      have hm := hnew k e (lt_of_some hk0) he
      obtain ⟨vs', rw, rw', opn', h2, h3, h4, h5⟩ := hs.row k _ hk0
      cases h2
      have hq := q2.obj k _ e h1 hm
      obtain ⟨g0, g1, c, el, lo, hi, g2, g3, g4, g5⟩ := hq
      obtain ⟨_, _, _, _, _, _, _, _, _, f5⟩ := hr.obj _ _ _ h3 he
      exact ⟨g0, g1, c, el, lo, hi, g2, g3, g4.plain_to hp, fun h => ⟨(f5 (h4 rfl)).1, (g5 h).2⟩⟩
  · have hlo : o.live = true := by cases o <;> first | rfl | cases ho
    obtain ⟨o0, h1, h2, h3⟩ := hwas b o hb hlo
    obtain ⟨o1, k1, k2, k3⟩ := hwas b' o' hb' hlv
    exact hr.inj b b' o0 o1 e e' h1 k1 he he' (h3 ho) k2 hc

/-! ### A row without spare room is one of unknown spare room -/
/-- Entries that say no more. -/
def Loose (μ μ2 : List (Option Ent)) : Prop := ∀ (b : Nat) (e : Ent), μ[b]? = some (some e) → ∃ (e2 : Ent), μ2[b]? = some (some e2) ∧ e2.cb = e.cb ∧ e2.base = e.base ∧ (e2 = e ∨ e.xtra = 0)
theorem VR.loose {ex : Bool} {μ μ2 : List (Option Ent)} (hs : Loose μ μ2) {a c : Value} (h : VR ex μ a c) : VR ex μ2 a c := by
  induction h with
  | bool b => exact .bool b
  | int k n => exact .int k n
  | float k x => exact .float k x
  | complex k x y => exact .complex k x y
  | string s => exact .string s
  | pnil => exact .pnil
  | ptr h => obtain ⟨e2, h2, h3, h4, _⟩ := hs _ _ h; rw [← h3, ← h4]; exact .ptr h2
  | snil l c => exact .snil l c
  | slice h hc =>
    obtain ⟨e2, h2, h3, h4, h5⟩ := hs _ _ h
    rw [← h3, ← h4]
    rcases h5 with rfl | h5
    · exact .slice h2 hc
    · refine .slice h2 (.inl ?_)
      rcases hc with hc | hc
      · exact hc
      · have := hc.2.2; omega
  | sempty h a => obtain ⟨e2, h2, _⟩ := hs _ _ h; exact .sempty h2 a
  | func fn hf hc _ _ ih1 ih2 => exact .func fn hf hc ih1 ih2
  | nilFunc => exact .nilFunc
  | iface t _ ih => exact .iface t ih
  | nilIface => exact .nilIface
  | agg hc _ ih => exact .agg hc ih
  | tuple hc _ ih => exact .tuple hc ih
  | mapNil => exact .mapNil

theorem CallR.loosen {P : Program} {ex : Bool} {f : FuncId} {args : List Value} {σ : AHeap} {v : Value} {vs : List Value} (z : Nat) (hp : vs.all plain = true) (h : CallR P ex f args σ v (σ ++ [.row vs true none])) :
    CallR P ex f args σ v (σ ++ [.row vs true (some z)]) := by
  intro B μ w cargs hr hargs
  refine (h B μ w cargs hr hargs).mono ?_
  rintro cv w' ⟨μ', q1, q2, q3, q4⟩
  have hln := q2.len
  have hl0 := hr.len
  simp only [List.length_append, List.length_singleton] at hln
  have hrow : (σ ++ [AObj.row vs true none])[σ.length]? = some (.row vs true none) := by simp
  obtain ⟨e, he⟩ := q2.has _ _ hrow rfl
  obtain ⟨g0, g1, c, el, lo, hi, g2, g3, g4, g5⟩ := q2.obj _ _ e hrow he
  have hx : e.xtra = 0 := g1
  have hset : ∀ b (e2 : Ent), (μ'.set σ.length (some { e with esz := z }))[b]? = some (some e2) → (b = σ.length ∧ e2 = { e with esz := z }) ∨ (b ≠ σ.length ∧ μ'[b]? = some (some e2)) := by
    intro b e2 hb
    rw [List.getElem?_set] at hb
    by_cases hk : σ.length = b
    · rw [if_pos hk, if_pos (by omega)] at hb
      cases hb; exact .inl ⟨hk.symm, rfl⟩
    · rw [if_neg hk] at hb; exact .inr ⟨fun h => hk h.symm, hb⟩
  have hself : (μ'.set σ.length (some { e with esz := z }))[σ.length]? = some (some { e with esz := z }) := by
    rw [List.getElem?_set, if_pos rfl, if_pos (by omega)]
  have hls : Loose μ' (μ'.set σ.length (some { e with esz := z })) := by
    intro b e1 hb
    by_cases hk : b = σ.length
    · subst hk
      rw [he] at hb
      cases hb
      exact ⟨_, hself, rfl, rfl, .inr hx⟩
    · exact ⟨e1, by rw [List.getElem?_set, if_neg (fun h => hk h.symm)]; exact hb, rfl, rfl, .inl rfl⟩
  have hold : ∀ (b : Nat) (o : AObj), (σ ++ [AObj.row vs true (some z)])[b]? = some o → (b = σ.length ∧ o = .row vs true (some z)) ∨ (b < σ.length ∧ (σ ++ [AObj.row vs true none])[b]? = some o) := by
    intro b o hb
    rcases Nat.lt_or_ge b σ.length with h' | h'
    · right
      rw [List.getElem?_append_left h'] at hb ⊢
      exact ⟨h', hb⟩
    · left
      have hlt := lt_of_some hb
      simp only [List.length_append, List.length_singleton] at hlt
      have e0 : b = σ.length := by omega
      subst e0
      simp at hb
      exact ⟨rfl, hb.symm⟩
  -- what an object of the new heap was in the other one
  have was : ∀ (b : Nat) (o : AObj) (e2 : Ent), (σ ++ [AObj.row vs true (some z)])[b]? = some o → (μ'.set σ.length (some { e with esz := z }))[b]? = some (some e2) →
      ∃ (o1 : AObj) (e1 : Ent), (σ ++ [AObj.row vs true none])[b]? = some o1 ∧ μ'[b]? = some (some e1) ∧ e1.cb = e2.cb ∧ o1.owned = o.owned ∧ o1.live = o.live := by
    intro b o e2 hb hm
    rcases hold b o hb with ⟨rfl, rfl⟩ | ⟨hlt, h1⟩
    · rcases hset _ _ hm with ⟨_, rfl⟩ | ⟨hne, _⟩
      · exact ⟨_, e, hrow, he, rfl, rfl, rfl⟩
      · exact absurd rfl hne
    · rcases hset _ _ hm with ⟨rfl, _⟩ | ⟨_, h2⟩
      · omega
      · exact ⟨o, e2, h1, h2, rfl, rfl, rfl⟩
  refine ⟨μ'.set σ.length (some { e with esz := z }), q1.loose hls, ⟨by simp [hln], q2.hB, fun b o hb hlv => ?_, fun b o e2 hb hm => ?_, fun b b' o o' e1 e2 hb hb' hm hm' ho hlv hc => ?_⟩, fun b hb => ?_, q4⟩
  · rcases hold b o hb with ⟨rfl, rfl⟩ | ⟨hlt, h1⟩
    · exact ⟨_, hself⟩
    · obtain ⟨e1, h2⟩ := q2.has b o h1 hlv
      exact ⟨e1, by rw [List.getElem?_set, if_neg (by omega)]; exact h2⟩
  · rcases hold b o hb with ⟨rfl, rfl⟩ | ⟨hlt, h1⟩
    · rcases hset _ _ hm with ⟨_, rfl⟩ | ⟨hne, _⟩
      · refine ⟨g0, rfl, c, el, lo, hi, g2, ?_, g4.plain_to hp, g5⟩
        show e.base + vs.length + e.xtra * z ≤ c.size
        rw [hx] at g3 ⊢
        simpa using g3
      · exact absurd rfl hne
    · rcases hset _ _ hm with ⟨rfl, _⟩ | ⟨_, h2⟩
      · omega
      · have hq := q2.obj b o e2 h1 h2
        cases o with
        | dead => trivial
        | iter s p => exact hq
        | row us rw2 opn2 =>
          obtain ⟨k0, k1, c', el', lo', hi', k2, k3, k4, k5⟩ := hq
          exact ⟨k0, k1, c', el', lo', hi', k2, k3, ⟨k4.1, fun i a ha => let ⟨y, hy, hv⟩ := k4.2 i a ha; ⟨y, hy, hv.loose hls⟩⟩, k5⟩
  · obtain ⟨o1, e1', h1, h2, h3, h4, h5⟩ := was b o e1 hb hm
    obtain ⟨o2, e2', k1, k2, k3, k4, k5⟩ := was b' o' e2 hb' hm'
    exact q2.inj b b' o1 o2 e1' e2' h1 k1 h2 k2 (by rw [h4]; exact ho) (by rw [k5]; exact hlv) (by rw [h3, k3]; exact hc)
  · rw [List.getElem?_set, if_neg (by omega)]
    exact q3 b hb
end Go.Lk
end

section
/- append within a slice's room; rows of rows. -/
namespace Go.Lk
set_option linter.unusedSimpArgs false
set_option linter.unusedVariables false
theorem append_room {P : Program} {σ : AHeap} {t t2 : TypeId} {ts : List TypeId} {rest : List Value} {b k N z : Nat} {F Z : Nat → List Value} {x : Value} {opn : Option Nat}
    (hok : appOk P t t2 z = true) (hσ : σ[b]? = some (.row (rowOf (half2 F Z k) N) true opn)) (hx : aCells σ z 1 x = some (F k)) (hlx : sLen x = some 1)
    (hf : ∀ i, (F i).length = z) (hg : ∀ i, (Z i).length = z) (hone : (F k).all one = true) (hk : k < N) (hz : 0 < z) :
    aAppend P σ (t :: t2 :: ts) (.slice (some ⟨b, 0, some z⟩) k N :: x :: rest) = some (.slice (some ⟨b, 0, some z⟩) (k + 1) N, σ.set b (.row (rowOf (half2 F Z (k + 1)) N) true opn)) := by
  unfold appOk at hok
  unfold aAppend
  cases h1 : P.underlying t with
  | none => rw [h1] at hok; cases hok
  | some d1 =>
  rw [h1] at hok
  cases h2 : P.underlying t2 with
  | none => rw [h2] at hok; cases d1 <;> cases hok
  | some d2 =>
  rw [h2] at hok
  cases d1 with
  | slice e =>
    simp only [Bool.and_eq_true, Bool.not_eq_true'] at hok
    obtain ⟨hi, hok⟩ := hok
    cases h3 : P.info? e with
    | none => rw [h3] at hok; cases hok
    | some inf =>
      rw [h3] at hok
      simp only [Bool.and_eq_true, beq_iff_eq] at hok
      obtain ⟨⟨hsz, hby⟩, hzz⟩ := hok
      simp only [h1, h2, h3, hlx, hi, cond_false, hsz, hx]
      rw [if_pos (show k + 1 ≤ N from hk)]
      have hl := rowOf_len (half2_len hf hg k) N
      have h4 : k * z + z ≤ N * z := by
        have := Nat.mul_le_mul_right z (show k + 1 ≤ N from hk)
        rw [Nat.succ_mul] at this; exact this
      have hfk := hf k
      have hp : aPut σ b (0 + k * z) (F k) = some (σ.set b (.row (rowOf (half2 F Z (k + 1)) N) true opn)) := by
        unfold aPut
        have e := rowOf_splice (half2_len hf hg k) (half2_len hf hg (k + 1)) hk (fun i h => half2_ne F Z k i h)
        rw [half2_at] at e
        simp only [hσ, Nat.zero_add]
        rw [if_neg (by intro h; rw [h] at hfk; simp at hfk; omega), if_pos ⟨by omega, hone⟩, e]
      simp only [hp]
  | _ => cases hok
/-- Element i of the row of rows. -/
def nestR (n : Nat) (G : Nat → Nat → List Value) : Nat → List Value := fun i => G (i / n) (i % n)
theorem nest_at {n : Nat} (G : Nat → Nat → List Value) {i k : Nat} (hk : k < n) : nestR n G (i * n + k) = G i k := by
  unfold nestR
  rw [Nat.mul_comm, Nat.mul_add_div (by omega), Nat.mul_add_mod, Nat.div_eq_of_lt hk, Nat.mod_eq_of_lt hk, Nat.add_zero]
theorem nest_mul {n : Nat} (G : Nat → Nat → List Value) {i k : Nat} (hk : k < n) : nestR n G (n * i + k) = G i k := by
  rw [Nat.mul_comm]; exact nest_at G hk
theorem nest_hx {σ : AHeap} {z m i j : Nat} {x : Value} {G : Nat → Nat → List Value} (hj : j < m) (h : aCells σ z 1 x = some (G i j)) : aCells σ z 1 x = some (nestR m G (m * i + j)) := by
  rw [nest_mul G hj]; exact h
theorem nest_one {m : Nat} (G : Nat → Nat → List Value) (hm : 0 < m) : rowOf (nestR m G) 1 = G 0 0 := by
  have h := nest_mul G (i := 0) hm
  rw [Nat.mul_zero, Nat.zero_add] at h
  rw [← h]
  simp [rowOf]
theorem nest_len {n : Nat} {G : Nat → Nat → List Value} {s : Nat} (h : ∀ i k, (G i k).length = s) (i : Nat) : (nestR n G i).length = s := h _ _
theorem nest_all {n : Nat} {G : Nat → Nat → List Value} {p : Value → Bool} (h : ∀ i k, (G i k).all p = true) (i : Nat) : (nestR n G i).all p = true := h _ _
theorem half2_top (G Z : Nat → List Value) {n i : Nat} (h : n ≤ i) : half2 G Z n i = Z i := by
  unfold half2
  have : Nat.blt i n = false := by cases h' : Nat.blt i n; rfl; rw [Nat.blt_eq] at h'; omega
  rw [this]; rfl
theorem load_fld {P : Program} {σ : AHeap} {t : TypeId} {b off k n s j : Nat} {f : Nat → List Value} {rw' : Bool} {opn : Option Nat} {v : Value} (hσ : σ[b]? = some (.row (rowOf f n) rw' opn)) (hd : (P.underlying t).map isAggD = some false)
    (hf : ∀ i, (f i).length = s) (ho : off = k * s + j) (hj : j < s) (hk : k < n) (hv : (f k)[j]? = some v) : aLoad P σ t (.pointer (some ⟨b, off, none⟩)) = some v := by
  cases hu : P.underlying t with
  | none => rw [hu] at hd; cases hd
  | some d =>
  rw [hu] at hd
  have hd : isAggD d = false := by simpa using hd
  unfold aLoad
  simp only [hσ, hu, hd, cond_false]
  have h := rowOf_at hf hk
  have h2 := congrArg (fun l => l[j]?) h
  simp only [List.getElem?_take, List.getElem?_drop, hj, if_true] at h2
  rw [ho, h2, hv]
theorem append_many {P : Program} {σ : AHeap} {t t2 : TypeId} {ts : List TypeId} {rest xs : List Value} {b N n z : Nat} {F F' : Nat → List Value} {x : Value} {rw' : Bool} {opn : Option Nat}
    (hok : appOk P t t2 z = true) (hσ : σ[b]? = some (.row (rowOf F N) rw' opn)) (hrw : rw' = true ∨ opn = none) (hx : aCells σ z n x = some xs) (hlx : sLen x = some n) (hF : rowOf F N ++ xs = rowOf F' (N + n))
    (hf : ∀ i, (F i).length = z) (hone : xs.all one = true) (hn : 0 < n) (hN : N + n < 67108864) :
    aAppend P σ (t :: t2 :: ts) (.slice (some ⟨b, 0, some z⟩) N N :: x :: rest) = some (.slice (some ⟨σ.length, 0, some z⟩) (N + n) (N + n), kill σ b ++ [.row (rowOf F' (N + n)) true (some z)]) := by
  unfold appOk at hok
  unfold aAppend
  cases h1 : P.underlying t with
  | none => rw [h1] at hok; cases hok
  | some d1 =>
  rw [h1] at hok
  cases h2 : P.underlying t2 with
  | none => rw [h2] at hok; cases d1 <;> cases hok
  | some d2 =>
  rw [h2] at hok
  cases d1 with
  | slice e =>
    simp only [Bool.and_eq_true, Bool.not_eq_true'] at hok
    obtain ⟨hi, hok⟩ := hok
    cases h3 : P.info? e with
    | none => rw [h3] at hok; cases hok
    | some inf =>
      rw [h3] at hok
      simp only [Bool.and_eq_true, beq_iff_eq] at hok
      obtain ⟨⟨hsz, hby⟩, hzz⟩ := hok
      have hby' := Nat.le_of_ble_eq_true hby
      simp only [h1, h2, h3, hlx, hi, cond_false, hsz, hx]
      rw [if_neg (by omega)]
      have hold : aCells σ z N (.slice (some ⟨b, 0, some z⟩) N N) = some (rowOf F N) := cells_row hσ hf (Nat.le_refl _) z
      rw [hold]
      simp only
      have hb2 : (N + n) * inf.bytes ≤ 70368744177664 := by
        have h4 : (N + n) * inf.bytes ≤ 67108864 * 1048576 := Nat.mul_le_mul (by omega) hby'
        omega
      rw [if_pos ⟨hb2, hby', by omega, hone⟩]
      cases h5 : tZero P e with
      | none => rw [h5] at hzz; cases hzz
      | some zz =>
        rw [h5] at hzz
        have hzz : zz.cells.size = inf.size := by simpa using hzz
        have hne : ¬ zz.cells.size ≠ z := by omega
        simp only [h5, hne, if_false, hσ, true_and, Nat.le_refl, if_true, hrw]
        rw [hF]
  | _ => cases hok
theorem qF_eq {k : IntKind} {z c b : Int} {σ : AHeap} (h : z = c) (hb : b ≠ 0) : qF (.int k z) σ b = some (.int k c, σ) := by rw [h]; exact qF_ok _ _ hb
theorem bnd_no (d y : Nat) : bnd none d y = some d := rfl
theorem bnd_int {k : IntKind} {i d y : Nat} (h : i ≤ y) : bnd (some (.int k (iN i))) d y = some i := by
  unfold bnd
  simp only
  rw [if_pos ⟨by rw [iN_eq]; omega, by rw [iN_eq]; omega⟩]
  rfl
theorem slice_op {P : Program} {t e : TypeId} {z b o len cap l h off' n' c' : Nat} {low high : Option Value} (hu : P.underlying t = some (.slice e)) (hz : tSize P e = some z) (hl : bnd low 0 h = some l) (hh : bnd high len cap = some h) (hc : h ≤ cap)
    (ho : off' = o + l * z) (hn : n' = h - l) (hcap : c' = cap - l) :
    aSlice P t (.slice (some ⟨b, o, some z⟩) len cap) low high none = some (.slice (some ⟨b, off', some z⟩) n' c') := by
  unfold aSlice
  simp only [hu, hz]
  unfold bnds
  have h1 : bnd none cap cap = some cap := rfl
  simp only [h1, Option.isSome_none, Bool.false_and, Bool.false_eq_true, if_false, hh, hl]
  rw [if_pos ⟨trivial, hc⟩, ho, hn, hcap]
end Go.Lk
end

section
/- told: what its contract says, in any heap. -/
namespace Go.Lk
open Go.Proofs
set_option maxRecDepth 100000
set_option linter.unusedVariables false
set_option linter.unusedSimpArgs false
noncomputable def LT : Lib := ⟨Try.prog, false, t9q, [], []⟩
theorem LT_fp : ∀ e, e ∈ LT.pures → Try.prog.funcs[e.1]? = some e.2 := fs_nil
theorem LT_fh : ∀ e, e ∈ LT.heaps → Try.prog.funcs[e.1]? = some e.2.2 := gs_nil
theorem LT_p1 (gp : Nat → PureFn) (g : Nat → HeapFn) : (LT.pures.all fun e => fnOk (LT.mk' gp g) e.2) = true := by kernel_rfl
theorem LT_h1 (gp : Nat → PureFn) (g : Nat → HeapFn) : (LT.heaps.all fun e => fnOk (LT.mk' gp g) e.2.2 && (!e.2.1 || fnRo (LT.mk' gp g) e.2.2)) = true := by kernel_rfl
theorem LT_ok : LT.Ok := ⟨t9q_ok, mixed, LT_fp, LT_fh, LT_p1, LT_h1⟩
noncomputable def dLT : Cfg := LT.cfg 100 6
theorem dLT_ok : dLT.Ok := LT_ok.cfg 100 6

def tdFr (t0 : Value) (n : Nat) (x y : Value) : List Value :=
  [t0, .slice (some ⟨2, 0, some 1⟩) n n, .int .i64 0, .int .i64 0, .slice (some ⟨0, 0, some 2⟩) n n, .int .i64 0, undef, undef, undef, undef, undef, undef, .bool false, x, y] ++ List.replicate 47 undef
def tdH1 (o0 ob : Option Nat) (a b a2 b2 c d : Nat → Nat) (n : Nat) (k : Nat) : AHeap := [.row (rowOf (fun i => [.float .f64 (c i), .float .f64 (d i)]) n) false o0, .row (rowOf (half2 (fun _ => [.complex .f64 13858490847093325824 4635118810238550016]) (fun i => [.complex .f64 (a i) (b i)]) k) n) true (some 1), .row (rowOf (fun i => [.complex .f64 (a2 i) (b2 i)]) n) false ob]
def tdH2 (o0 ob : Option Nat) (a b a2 b2 c d : Nat → Nat) (n : Nat) (k : Nat) : AHeap :=
  match k with
  | 0 => [.row (rowOf (fun i => [.float .f64 (c i), .float .f64 (d i)]) n) false o0, .row (rowOf (half2 (fun _ => [.complex .f64 13858490847093325824 4635118810238550016]) (fun _ => [.complex .f64 13858561215837503488 4635189178982727680]) n) n) true (some 1), .row (rowOf (fun i => [.complex .f64 (a2 i) (b2 i)]) n) false ob]
  | k + 1 => [.row (rowOf (fun i => [.float .f64 (c i), .float .f64 (d i)]) n) false o0, .dead, .row (rowOf (fun i => [.complex .f64 (a2 i) (b2 i)]) n) false ob, .row (rowOf (half2 (fun _ => [.complex .f64 13858490847093325824 4635118810238550016]) (fun _ => [.complex .f64 13858561215837503488 4635189178982727680]) n) (n + (k + 1))) true (some 1)]
def tdS (n k : Nat) : Value := match k with | 0 => .slice (some ⟨1, 0, some 1⟩) n n | k + 1 => .slice (some ⟨3, 0, some 1⟩) (n + (k + 1)) (n + (k + 1))
theorem tdH12 (o0 ob : Option Nat) (a b a2 b2 c d : Nat → Nat) (n : Nat) : tdH1 o0 ob a b a2 b2 c d n n = tdH2 o0 ob a b a2 b2 c d n 0 := by
  unfold tdH1 tdH2
  simp only [half2_full]
def pRow (c d : Nat → Nat) (n : Nat) : List Value := rowOf (fun i => [.float .f64 (c i), .float .f64 (d i)]) n
def xRow (a b : Nat → Nat) (n : Nat) : List Value := rowOf (fun i => [.complex .f64 (a i) (b i)]) n
def tdArgsW (ba bb bc n : Nat) : List Value := [.slice (some ⟨ba, 0, some 1⟩) n n, .slice (some ⟨bb, 0, some 1⟩) n n, .int .i64 0, .int .i64 0, .slice (some ⟨bc, 0, some 2⟩) n n, .int .i64 0]
def tdArgsE (e : Int) : List Value := [.slice none 0 0, .slice none 0 0, .int .i64 e, .int .i64 e, .slice none 0 0, .int .i64 e]
def TdW (args : List Value) (σ : AHeap) : Prop :=
  (∃ ba bb bc o0 ob r0 rb a b a2 b2 c d n, 0 < n ∧ n ≤ 16384 ∧ (∀ i, i < n → gSame_0 (a i) (b i) (c i) (d i) = true) ∧ (∀ i, i < n → gSame_0 (a2 i) (b2 i) (c i) (d i) = true) ∧ args = tdArgsW ba bb bc n ∧
    σ[bc]? = some (.row (pRow c d n) r0 o0) ∧ σ[ba]? = some (.row (xRow a b n) true (some 1)) ∧ σ[bb]? = some (.row (xRow a2 b2 n) rb ob) ∧ ba ≠ bb ∧ ba ≠ bc ∧ bb ≠ bc) ∨
  (∃ e : Int, (e = 0 ∨ e = 2 ∨ e = 3 ∨ e = 6 ∨ e = 40) ∧ args = tdArgsE e)
def tdKill (args : List Value) (σ : AHeap) : AHeap := match args with | .slice (some ⟨ba, _, _⟩) _ _ :: _ => σ.set ba .dead | _ => σ
open Classical in
noncomputable def sToldW : HeapFn := fun args σ => if TdW args σ then some (.bool true, tdKill args σ) else none
def tdSmall (o0 ob : Option Nat) (a b a2 b2 c d : Nat → Nat) (n : Nat) : AHeap := [.row (pRow c d n) false o0, .row (xRow a b n) true (some 1), .row (xRow a2 b2 n) false ob]
theorem sToldW_is {f : Nat}
    (hS : ∀ o0 ob a b a2 b2 c d n, 0 < n → n ≤ 16384 → (∀ i, i < n → gSame_0 (a i) (b i) (c i) (d i) = true) → (∀ i, i < n → gSame_0 (a2 i) (b2 i) (c i) (d i) = true) → ∃ σ', CallR Try.prog false f (tdArgsW 1 2 0 n) (tdSmall o0 ob a b a2 b2 c d n) (.bool true) σ')
    (hE : ∀ e : Int, (e = 0 ∨ e = 2 ∨ e = 3 ∨ e = 6 ∨ e = 40) → ∃ σ', CallR Try.prog false f (tdArgsE e) [] (.bool true) σ') : IsHeap Try.prog false f false sToldW := by
  refine ⟨fun args σ v σ' h => ?_, (by intro h; cases h), fun args σ v σ' h => ?_⟩
  · unfold sToldW at h
    split at h
    · rename_i hx
      cases h
      rcases hx with ⟨ba, bb, bc, o0, ob, r0, rb, a, b, a2, b2, c, d, n, h0, hn, h1, h2, rfl, g1, g2, g3, n1, n2, n3⟩ | ⟨e, he, rfl⟩
      · obtain ⟨σ1, hc⟩ := hS o0 ob a b a2 b2 c d n h0 hn h1 h2
        have l1 := lt_of_some g1
        have l2 := lt_of_some g2
        have l3 := lt_of_some g3
        have hk : tdKill (tdArgsW ba bb bc n) σ = σ.set ba .dead := rfl
        rw [hk]
        refine CallR.frameW (r := fun k => match k with | 0 => bc | 1 => ba | 2 => bb | k + 3 => k + σ.length) (σ0 := tdSmall o0 ob a b a2 b2 c d n) (args0 := tdArgsW 1 2 0 n) ⟨fun k o hk => ?_, fun k k' hk hk' e => ?_, fun k hk => ?_⟩ ?_ hc rfl (by simp) (fun k o hk => ?_)
        · match k, hk with
          | 0, hk => cases hk; exact ⟨_, _, _, _, rfl, g1, (by intro h; cases h), rowOf_all (fun _ => rfl) _⟩
          | 1, hk => cases hk; exact ⟨_, _, _, _, rfl, g2, (fun _ => rfl), rowOf_all (fun _ => rfl) _⟩
          | 2, hk => cases hk; exact ⟨_, _, _, _, rfl, g3, (by intro h; cases h), rowOf_all (fun _ => rfl) _⟩
          | k + 3, hk => cases hk
        · have hl : (tdSmall o0 ob a b a2 b2 c d n).length = 3 := rfl
          rw [hl] at hk hk'
          match k, k', hk, hk', e with
          | 0, 0, _, _, _ => rfl
          | 1, 1, _, _, _ => rfl
          | 2, 2, _, _, _ => rfl
          | 0, 1, _, _, e => exact absurd e.symm n2
          | 1, 0, _, _, e => exact absurd e n2
          | 0, 2, _, _, e => exact absurd e.symm n3
          | 2, 0, _, _, e => exact absurd e n3
          | 1, 2, _, _, e => exact absurd e n1
          | 2, 1, _, _, e => exact absurd e.symm n1
        · have hl : (tdSmall o0 ob a b a2 b2 c d n).length = 3 := rfl
          rw [hl] at hk
          match k, hk with
          | k + 3, _ => exact Nat.le_add_left _ _
        · rfl
        · rw [List.getElem?_set] at hk
          by_cases hb : ba = k
          · rw [if_pos hb, if_pos l2] at hk
            cases hk
            exact .inl rfl
          · rw [if_neg hb] at hk
            refine .inr (.inl ⟨hk, fun j hj => ?_⟩)
            match j, hj with
            | 0, hj => cases hj
            | 1, _ => exact hb
            | 2, hj => cases hj
            | j + 3, hj => cases hj
      · obtain ⟨σ1, hc⟩ := hE e he
        exact CallR.frameQ (σ := σ) (r := fun k => k + σ.length) (args0 := tdArgsE e) (σ0 := []) ⟨fun k o hk => by simp at hk, fun k hk => by omega⟩ rfl hc rfl
    · cases h
  · unfold sToldW at h
    split at h
    · cases h
      unfold tdKill
      split
      · simp
      · exact Nat.le_refl _
    · cases h
theorem sToldW_row {ba bb bc : Nat} {o0 ob : Option Nat} {r0 rb : Bool} {a b a2 b2 c d : Nat → Nat} {n : Nat} {σ : AHeap} (h0 : 0 < n) (hn : n ≤ 16384) (h1 : ∀ i, i < n → gSame_0 (a i) (b i) (c i) (d i) = true) (h2 : ∀ i, i < n → gSame_0 (a2 i) (b2 i) (c i) (d i) = true)
    (g1 : σ[bc]? = some (.row (pRow c d n) r0 o0)) (g2 : σ[ba]? = some (.row (xRow a b n) true (some 1))) (g3 : σ[bb]? = some (.row (xRow a2 b2 n) rb ob)) (n1 : ba ≠ bb) (n2 : ba ≠ bc) (n3 : bb ≠ bc) :
    sToldW (tdArgsW ba bb bc n) σ = some (.bool true, σ.set ba .dead) := by
  unfold sToldW
  rw [if_pos (show TdW _ _ from .inl ⟨ba, bb, bc, o0, ob, r0, rb, a, b, a2, b2, c, d, n, h0, hn, h1, h2, rfl, g1, g2, g3, n1, n2, n3⟩)]
  rfl
theorem sToldW_err {e : Int} (he : e = 0 ∨ e = 2 ∨ e = 3 ∨ e = 6 ∨ e = 40) (σ : AHeap) : sToldW (tdArgsE e) σ = some (.bool true, σ) := by
  unfold sToldW
  rw [if_pos (show TdW _ _ from .inr ⟨e, he, rfl⟩)]
  rfl
end Go.Lk
end
