/- Rounds that grow rows, write rows: what they keep. -/
import Derived.Test.YtmomainjlncogaaLkLP
namespace Go.Lk
set_option linter.unusedSimpArgs false
set_option linter.unusedVariables false

/-! ### Rows as functions: more -/
theorem rowOf_all {f : Nat → List Value} {p : Value → Bool} (h : ∀ i, (f i).all p = true) : ∀ n, (rowOf f n).all p = true := by
  intro n
  induction n with
  | zero => rfl
  | succ n ih => rw [rowOf_succ, List.all_append, ih, h]; rfl
theorem rowOf_congr {f g : Nat → List Value} : ∀ {n : Nat}, (∀ i, i < n → f i = g i) → rowOf f n = rowOf g n := by
  intro n
  induction n with
  | zero => intro _; rfl
  | succ n ih => intro h; rw [rowOf_succ, rowOf_succ, ih (fun i hi => h i (by omega)), h n (by omega)]
theorem rowOf_zero (f : Nat → List Value) : rowOf f 0 = [] := rfl
theorem rowOf_take {f : Nat → List Value} {s : Nat} (hf : ∀ i, (f i).length = s) : ∀ {n m : Nat}, m ≤ n → (rowOf f n).take (m * s) = rowOf f m := by
  intro n
  induction n with
  | zero => intro m h; have : m = 0 := by omega
            subst this; simp [rowOf_zero]
  | succ n ih =>
    intro m h
    rw [rowOf_succ]
    have hl := rowOf_len hf n
    rcases Nat.lt_or_eq_of_le h with h' | h'
    · have h1 : m * s ≤ n * s := Nat.mul_le_mul_right s (by omega)
      rw [List.take_append_of_le_length (by omega)]
      exact ih (by omega)
    · subst h'
      rw [← rowOf_succ]
      exact List.take_of_length_le (by rw [rowOf_len hf]; exact Nat.le_refl _)
theorem rowOf_splice {f g : Nat → List Value} {s : Nat} (hf : ∀ i, (f i).length = s) (hg : ∀ i, (g i).length = s) {k n : Nat} (hk : k < n) (hne : ∀ i, i ≠ k → g i = f i) : splice (rowOf f n) (k * s) (g k) = rowOf g n := by
  have hlf := rowOf_len hf n
  have hlg := rowOf_len hg n
  have hgk := hg k
  have hks : k * s + s ≤ n * s := by
    have := Nat.mul_le_mul_right s (show k + 1 ≤ n from hk)
    rw [Nat.succ_mul] at this; exact this
  unfold splice
  have e1 : rowOf g n = (rowOf g n).take (k * s) ++ ((rowOf g n).drop (k * s)).take s ++ (rowOf g n).drop (k * s + s) := by
    rw [List.append_assoc]
    conv => lhs; rw [← List.take_append_drop (k * s) (rowOf g n)]
    congr 1
    conv => lhs; rw [← List.take_append_drop s ((rowOf g n).drop (k * s))]
    rw [List.drop_drop]
  rw [e1, rowOf_at hg hk, rowOf_take hg (by omega), rowOf_take hf (by omega), hgk]
  congr 1
  · congr 1
    exact rowOf_congr fun i hi => (hne i (by omega)).symm
  · apply List.ext_getElem?
    intro j
    rw [List.getElem?_drop, List.getElem?_drop]
    rcases Nat.eq_zero_or_pos s with h0 | hs
    · rw [List.getElem?_eq_none (by rw [hlf, h0]; simp), List.getElem?_eq_none (by rw [hlg, h0]; simp)]
    · rcases Nat.lt_or_ge (k * s + s + j) (n * s) with hj | hj
      · have hq : (k * s + s + j) / s < n := (Nat.div_lt_iff_lt_mul hs).2 hj
        have hm := Nat.mod_lt (k * s + s + j) hs
        have hd := Nat.div_add_mod (k * s + s + j) s
        have hkq : k < (k * s + s + j) / s := by
          rw [Nat.lt_iff_add_one_le, Nat.le_div_iff_mul_le hs, Nat.succ_mul]
          omega
        have r1 : (rowOf f n)[(k * s + s + j) / s * s + (k * s + s + j) % s]? = (f ((k * s + s + j) / s))[(k * s + s + j) % s]? := by
          have h2 := congrArg (fun l => l[(k * s + s + j) % s]?) (rowOf_at hf hq)
          simp only [List.getElem?_take, List.getElem?_drop, hm, if_true] at h2
          exact h2
        have r2 : (rowOf g n)[(k * s + s + j) / s * s + (k * s + s + j) % s]? = (g ((k * s + s + j) / s))[(k * s + s + j) % s]? := by
          have h2 := congrArg (fun l => l[(k * s + s + j) % s]?) (rowOf_at hg hq)
          simp only [List.getElem?_take, List.getElem?_drop, hm, if_true] at h2
          exact h2
        rw [Nat.mul_comm _ s, hd] at r1 r2
        rw [r1, r2, hne _ (by omega)]
      · rw [List.getElem?_eq_none (by omega), List.getElem?_eq_none (by omega)]
theorem zrow_rowOf (z : List Value) (hz : z ≠ []) (n : Nat) : zrow z (n * z.length) = rowOf (fun _ => z) n := by
  have hl := rowOf_len (f := fun _ => z) (s := z.length) (fun _ => rfl) n
  have hs : 0 < z.length := List.length_pos_iff.2 hz
  apply List.ext_getElem?
  intro j
  unfold zrow
  rw [List.getElem?_map]
  rcases Nat.lt_or_ge j (n * z.length) with hj | hj
  · rw [List.getElem?_range hj]
    have hq : j / z.length < n := (Nat.div_lt_iff_lt_mul hs).2 hj
    have hm := Nat.mod_lt j hs
    have hd := Nat.div_add_mod j z.length
    have h2 := congrArg (fun l => l[j % z.length]?) (rowOf_at (f := fun _ => z) (s := z.length) (fun _ => rfl) hq)
    simp only [List.getElem?_take, List.getElem?_drop, hm, if_true] at h2
    rw [Nat.mul_comm _ z.length, hd] at h2
    rw [h2]
    simp [List.getD_eq_getElem?_getD, hm]
  · rw [List.getElem?_eq_none (l := List.range (n * z.length)) (by simpa using hj), List.getElem?_eq_none (by omega)]
    rfl

/-! ### What is kept, under other names -/
def rOf (ks : List Nat) (big : Nat) (b : Nat) : Nat := match ks[b]? with | some x => x | none => b + big
def pickH (ks : List Nat) (σ : AHeap) : AHeap := ks.map fun k => σ.getD k .dead
def plainO : AObj → Prop
  | .row vs _ _ => vs.all plain = true
  | _ => True
theorem plainO.ren {r : Nat → Nat} {o : AObj} (h : plainO o) : renO r o = o := by
  cases o with
  | row vs rw' opn =>
    simp only [renO]
    congr 1
    have key : ∀ l : List Value, l.all plain = true → l.map (renV r 3) = l := by
      intro l
      induction l with
      | nil => intro _; rfl
      | cons v l ih =>
        intro h
        rw [List.all_cons, Bool.and_eq_true] at h
        rw [List.map_cons, plain_inert h.1, ih h.2]
    exact key vs h
  | dead => rfl
  | iter s p => rfl

theorem emb_of_map {r : Nat → Nat} : ∀ (mask : List Bool) (fr1 fr' : List Value), maskF mask fr1 = fr'.map (renV r 3) → FrEmb r fr' fr1
  | _, [], [], _ => trivial
  | mask, [], b :: bs, h => by cases mask <;> simp [maskF] at h
  | mask, a :: as, [], h => by cases mask <;> simp [maskF] at h
  | [], a :: as, b :: bs, h => by
    simp only [maskF, List.map_cons, List.cons.injEq] at h
    have hm : maskF [] as = as.map fun _ => undef := by cases as <;> rfl
    refine ⟨.inl (isU_ren (by rw [← h.1]; rfl)), emb_of_map [] as bs (by rw [hm]; exact h.2)⟩
  | m :: ms, a :: as, b :: bs, h => by
    simp only [maskF, List.map_cons, List.cons.injEq] at h
    refine ⟨?_, emb_of_map ms as bs h.2⟩
    cases m
    · left; exact isU_ren (by rw [← h.1]; rfl)
    · right; exact h.1

theorem Sim.keepR {C : Cfg} {c : Code} {fr fr1 fr' : List Value} {σ0 σ σ1 σ' : AHeap} {e : Exit} {n0 : Nat} (h : Sim C n0 c fr σ e fr1 σ1) (hs : Stood C.ex σ0) (hn : n0 ≤ σ.length) (ks : List Nat) (mask : List Bool)
    (hn0 : ks.take n0 = List.range n0) (hk0 : ks.take σ0.length = List.range σ0.length) (hlt : ks.all (fun k => Nat.blt k σ1.length) = true) (hnd : ks.Nodup) (hσ : pickH ks σ1 = σ') (hfix : σ'.take σ0.length = σ0)
    (hp : ∀ b o, σ0.length ≤ b → σ'[b]? = some o → plainO o) (hf : maskF mask fr1 = fr'.map (renV (rOf ks σ1.length) 3)) : Sim C n0 c fr σ e fr' σ' := by
  have hlen : σ'.length = ks.length := by rw [← hσ]; simp [pickH]
  have hget : ∀ (b k : Nat), ks[b]? = some k → σ'[b]? = some (σ1.getD k .dead) ∧ k < σ1.length := by
    intro b k hb
    refine ⟨by rw [← hσ]; simp [pickH, hb], ?_⟩
    have := List.all_eq_true.1 hlt k (List.mem_of_getElem? hb)
    simpa [Nat.blt_eq] using this
  have hfixr : ∀ (m : Nat), ks.take m = List.range m → ∀ b, b < m → rOf ks σ1.length b = b ∧ b < ks.length := by
    intro m hm b hb
    have h1 : (ks.take m)[b]? = some b := by rw [hm, List.getElem?_range hb]
    rw [List.getElem?_take, if_pos hb] at h1
    exact ⟨by unfold rOf; rw [h1], lt_of_some h1⟩
  have hn0l : n0 ≤ ks.length := by
    rcases Nat.eq_zero_or_pos n0 with h0 | h0
    · omega
    · have := (hfixr n0 hn0 (n0 - 1) (by omega)).2; omega
  have hk0l : σ0.length ≤ ks.length := by
    rcases Nat.eq_zero_or_pos σ0.length with h0 | h0
    · omega
    · have := (hfixr _ hk0 (σ0.length - 1) (by omega)).2; omega
  refine h.embN (r := rOf ks σ1.length) hs hn (by omega) (fun b hb => (hfixr n0 hn0 b hb).1) ⟨by omega, fun b hb => ?_, fun b hb => (hfixr _ hk0 b hb).1, fun b b' o o' hb hb' _ _ e => ?_, fun b o hb hl => ?_⟩ (emb_of_map mask fr1 fr' hf)
  · unfold rOf
    rw [List.getElem?_eq_none (by omega)]
    simp only; omega
  · have h1 := lt_of_some hb
    have h2 := lt_of_some hb'
    obtain ⟨k, hk⟩ : ∃ k, ks[b]? = some k := ⟨_, List.getElem?_eq_getElem (by omega)⟩
    obtain ⟨k', hk'⟩ : ∃ k, ks[b']? = some k := ⟨_, List.getElem?_eq_getElem (by omega)⟩
    unfold rOf at e
    rw [hk, hk'] at e
    simp only at e
    subst e
    exact (List.getElem?_inj (lt_of_some hk) hnd).1 (hk.trans hk'.symm)
  · have h1 := lt_of_some hb
    obtain ⟨k, hk⟩ : ∃ k, ks[b]? = some k := ⟨_, List.getElem?_eq_getElem (by omega)⟩
    obtain ⟨g1, g2⟩ := hget b k hk
    rw [hb] at g1
    have hk1 : σ1[k]? = some o := by
      cases g1
      rw [List.getD_eq_getElem?_getD, List.getElem?_eq_getElem g2]
      rfl
    rcases Nat.lt_or_ge b σ0.length with h' | h'
    · left
      refine ⟨h', by rw [← hfix, List.getElem?_take, if_pos h']; exact hb, ?_⟩
      have := (hfixr _ hk0 b h').1
      unfold rOf at this
      rw [hk] at this
      simp only at this
      rw [← this]; exact hk1
    · right
      have : rOf ks σ1.length b = k := by unfold rOf; rw [hk]
      rw [this, (hp b o h' hb).ren]
      exact hk1
end Go.Lk
