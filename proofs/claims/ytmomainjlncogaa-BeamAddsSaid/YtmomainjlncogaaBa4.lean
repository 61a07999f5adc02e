import Derived.Test.YtmomainjlncogaaBa3
import Derived.ChangeSlices
section
/- Loops: their bodies, their rounds; rows as functions. -/
namespace Go.Lk
set_option linter.unusedSimpArgs false
set_option linter.unusedVariables false

def loopsOf : Code → List Code
  | .loop b => b :: loopsOf b
  | .seq a b => loopsOf a ++ loopsOf b
  | .cond _ x y => loopsOf x ++ loopsOf y
  | .block _ b | .scope b => loopsOf b
  | _ => []
/-- The body of loop k of a function (in the text's order). -/
def loopOf (fn : Func) (k : Nat) : Code := match fn.body with | some b => (loopsOf b).getD k .skip | none => .skip
/-! ### Rows as functions -/
def rowOf (f : Nat → List Value) (n : Nat) : List Value := (List.range n).flatMap f
theorem rowOf_len {f : Nat → List Value} {s : Nat} (hf : ∀ i, (f i).length = s) : ∀ n, (rowOf f n).length = n * s := by
  intro n
  unfold rowOf
  induction n with
  | zero => simp
  | succ n ih => rw [List.range_succ, List.flatMap_append, List.length_append, ih]; simp [hf, Nat.succ_mul]
theorem rowOf_succ (f : Nat → List Value) (n : Nat) : rowOf f (n + 1) = rowOf f n ++ f n := by
  unfold rowOf; rw [List.range_succ, List.flatMap_append]; simp
theorem rowOf_at {f : Nat → List Value} {s : Nat} (hf : ∀ i, (f i).length = s) {k : Nat} : ∀ {n : Nat}, k < n → ((rowOf f n).drop (k * s)).take s = f k := by
  intro n
  induction n with
  | zero => intro h; omega
  | succ n ih =>
    intro h
    rw [rowOf_succ]
    have hl := rowOf_len hf n
    rcases Nat.lt_or_eq_of_le (Nat.le_of_lt_succ h) with h' | h'
    · have h1 : k * s + s ≤ n * s := by
        have := Nat.mul_le_mul_right s (show k + 1 ≤ n from h')
        rw [Nat.succ_mul] at this; exact this
      rw [List.drop_append_of_le_length (by omega), List.take_append_of_le_length (by rw [List.length_drop]; omega)]
      exact ih h'
    · subst h'
      rw [List.drop_append, hl, Nat.sub_self, List.drop_of_length_le (by omega)]
      simp only [List.drop_zero, List.nil_append]
      exact List.take_of_length_le (by rw [hf]; exact Nat.le_refl _)

/-- A sum of integers that stays in bounds. -/
def wF (k : IntKind) (e : Int) (σ : AHeap) : Option (Value × AHeap) := some (.int k (k.wrap e), σ)
theorem i64_wrap {e : Int} (h : -9223372036854775808 ≤ e ∧ e ≤ 9223372036854775807) : IntKind.i64.wrap e = e := by
  unfold IntKind.wrap
  simp [IntKind.bits, IntKind.signed]
  omega
theorem wF_ok {e e' : Int} (σ : AHeap) (h : -9223372036854775808 ≤ e ∧ e ≤ 9223372036854775807) (he : e = e') : wF .i64 e σ = some (.int .i64 e', σ) := by
  unfold wF; rw [i64_wrap h, he]
/-- An element's address. -/
def ixF (V : Value) (σ : AHeap) (n : Int) (len : Nat) : Option (Value × AHeap) :=
  match (if 0 ≤ n ∧ n < (len : Int) then some V else none : Option Value) with
  | some v => some (v, σ)
  | none => none
theorem ixF_ok (V : Value) (σ : AHeap) {n : Int} {len : Nat} (h : 0 ≤ n ∧ n < (len : Int)) : ixF V σ n len = some (V, σ) := by unfold ixF; rw [if_pos h]
/-- A load. -/
def ldF (o : Option Value) (σ : AHeap) : Option (Value × AHeap) :=
  match o with
  | some v => some (v, σ)
  | none => none
theorem ldF_ok {o : Option Value} {v : Value} {σ : AHeap} (h : o = some v) : ldF o σ = some (v, σ) := by rw [h]; rfl
theorem load_agg {P : Program} {σ : AHeap} {t : TypeId} {b s off k n : Nat} {f : Nat → List Value} {rw' : Bool} {opn : Option Nat} (hσ : σ[b]? = some (.row (rowOf f n) rw' opn)) (hd : (P.underlying t).map isAggD = some true)
    (hs : tSize P t = some s) (hf : ∀ i, (f i).length = s) (ho : off = k * s) (hk : k < n) : aLoad P σ t (.pointer (some ⟨b, off, none⟩)) = some (.agg (f k).toArray) := by
  cases hu : P.underlying t with
  | none => rw [hu] at hd; cases hd
  | some d =>
  rw [hu] at hd
  have hd : isAggD d = true := by simpa using hd
  unfold aLoad
  simp only [hσ, hu, hd, hs, cond_true]
  have hl := rowOf_len hf n
  have h1 : k * s + s ≤ n * s := by
    have := Nat.mul_le_mul_right s (show k + 1 ≤ n from hk)
    rw [Nat.succ_mul] at this; exact this
  rw [if_pos (by omega), ho, rowOf_at hf hk]
theorem load_one {P : Program} {σ : AHeap} {t : TypeId} {b off k n : Nat} {g : Nat → Value} {rw' : Bool} {opn : Option Nat} (hσ : σ[b]? = some (.row (rowOf (fun i => [g i]) n) rw' opn)) (hd : (P.underlying t).map isAggD = some false)
    (ho : off = k) (hk : k < n) : aLoad P σ t (.pointer (some ⟨b, off, none⟩)) = some (g k) := by
  cases hu : P.underlying t with
  | none => rw [hu] at hd; cases hd
  | some d =>
  rw [hu] at hd
  have hd : isAggD d = false := by simpa using hd
  unfold aLoad
  simp only [hσ, hu, hd, cond_false]
  have h := rowOf_at (f := fun i => [g i]) (s := 1) (fun i => rfl) (k := k) hk
  rw [Nat.mul_one] at h
  have h2 := congrArg (fun l => l[0]?) h
  simp only [List.getElem?_take, List.getElem?_drop] at h2
  rw [ho]
  simpa using h2

/-! ### What is kept of a round -/
def maskF : List Bool → List Value → List Value
  | b :: bs, v :: vs => (bif b then v else undef) :: maskF bs vs
  | _, vs => vs.map fun _ => undef
/-- The end of a stretch, its blocks renamed; the first n0 keep their names. -/
theorem Sim.embN {C : Cfg} {c : Code} {fr fr1 fr' : List Value} {σ0 σ σ1 σ' : AHeap} {e : Exit} {r : Nat → Nat} {n0 : Nat} (h : Sim C n0 c fr σ e fr1 σ1) (hs : Stood C.ex σ0) (hn : n0 ≤ σ.length) (hn' : n0 ≤ σ'.length) (hfix : ∀ b, b < n0 → r b = b) (he : Emb σ0 r σ' σ1) (hf : FrEmb r fr' fr1) :
    Sim C n0 c fr σ e fr' σ' := by
  intro B μ tmps defers w Q hf0 hr hQ
  refine h B μ tmps defers w Q hf0 hr ?_
  intro μ1 tmps' w' q1 q2 q3 q4
  have hback := he.back q2
  refine hQ (renM μ1 r σ'.length) tmps' w' ⟨by rw [hf.len]; exact q1.1, fun i a ha => ?_⟩ (he.heap q2 hs) (fun b hb => ?_) q4
  · have hlt := lt_of_some ha
    rcases hf.get i a ha with hu | hb
    · obtain ⟨c, hc⟩ : ∃ c, tmps'[i]? = some c := ⟨_, Array.getElem?_eq_getElem (by rw [← q1.1, ← hf.len]; exact hlt)⟩
      exact ⟨c, hc, .inl hu⟩
    · obtain ⟨c, hc, hv⟩ := q1.2 i _ hb
      refine ⟨c, hc, ?_⟩
      rcases hv with hu | hv
      · exact .inl (isU_ren hu)
      · exact .inr (VR.ren hback 3 _ _ hv)
  · have hlt : b < μ.length := by rw [hr.len]; omega
    rw [renM_get (by omega), hfix b hb, q3 b hb, List.getElem?_eq_getElem hlt]
    rfl

/-- A frame that is known better. -/
theorem Sim.enter {C : Cfg} {c : Code} {fr fr0 fr1 : List Value} {σ σ1 : AHeap} {e : Exit} {n0 : Nat} (h : Sim C n0 c fr σ e fr1 σ1) (mask : List Bool) (hm : maskF mask fr0 = fr) : Sim C n0 c fr0 σ e fr1 σ1 := by
  subst hm
  intro B μ tmps defers w Q hf0 hr hQ
  refine h B μ tmps defers w Q ?_ hr hQ
  have hl : ∀ (bs : List Bool) (vs : List Value), (maskF bs vs).length = vs.length := by
    intro bs
    induction bs with
    | nil => intro vs; cases vs <;> simp [maskF]
    | cons b bs ih => intro vs; cases vs with
      | nil => simp [maskF]
      | cons v vs => simp [maskF, ih]
  have hg : ∀ (bs : List Bool) (vs : List Value) (i : Nat) (a : Value), (maskF bs vs)[i]? = some a → isU a = true ∨ vs[i]? = some a := by
    intro bs
    induction bs with
    | nil =>
      intro vs i a h
      left
      have : maskF [] vs = vs.map fun _ => undef := by cases vs <;> rfl
      rw [this, List.getElem?_map] at h
      cases hv : vs[i]? with
      | none => rw [hv] at h; cases h
      | some v => rw [hv] at h; cases h; rfl
    | cons b bs ih =>
      intro vs i a h
      cases vs with
      | nil => simp [maskF] at h
      | cons v vs =>
        cases i with
        | zero =>
          simp only [maskF, List.getElem?_cons_zero, Option.some.injEq] at h
          cases b
          · left; rw [← h]; rfl
          · right; rw [← h]; rfl
        | succ i =>
          simp only [maskF, List.getElem?_cons_succ] at h ⊢
          exact ih vs i a h
  refine ⟨by rw [hl]; exact hf0.1, fun i a ha => ?_⟩
  rcases hg mask fr0 i a ha with hu | hb
  · have hlt := lt_of_some ha
    rw [hl] at hlt
    exact ⟨_, Array.getElem?_eq_getElem (by rw [← hf0.1]; exact hlt), .inl hu⟩
  · exact hf0.2 i a hb

theorem CallR.of_DOXs {C : Cfg} (hC : C.Ok) {X : List Nat} {f : FuncId} {fn : Func} {args : List Value} {σ σ1 : AHeap} {v : Value} {n : Nat} {orc : Orc} {ps : List Prop}
    (hf : C.P.funcs[f]? = some fn) (hok : fnOkX C X fn = true) (h : DOfnX C X n fn args σ orc = some (ps, v, σ1)) (hp : Stood C.ex σ → All ps) : CallR C.P C.ex f args σ v σ1 :=
  fun B μ w cargs hr hargs => CallR.of_DOX hC hf hok h (hp ⟨B, μ, w, hr⟩) B μ w cargs hr hargs
theorem Sim.cast {C : Cfg} {c : Code} {fr fr' fr1 fr1' : List Value} {σ σ' σ1 σ1' : AHeap} {e : Exit} {n0 : Nat} (h : Sim C n0 c fr σ e fr1 σ1) (e1 : fr = fr') (e2 : σ = σ') (e3 : fr1 = fr1') (e4 : σ1 = σ1') : Sim C n0 c fr' σ' e fr1' σ1' := by
  subst e1 e2 e3 e4; exact h

end Go.Lk
end

section
/- Rounds that grow rows, write rows: what they keep. -/
namespace Go.Lk
set_option linter.unusedSimpArgs false
set_option linter.unusedVariables false

/-! ### Rows as functions: more -/
theorem rowOf_all {f : Nat → List Value} {p : Value → Bool} (h : ∀ i, (f i).all p = true) : ∀ n, (rowOf f n).all p = true := by
  intro n
  induction n with
  | zero => rfl
  | succ n ih => rw [rowOf_succ, List.all_append, ih, h]; rfl
theorem rowOf_congr {f g : Nat → List Value} : ∀ {n : Nat}, (∀ i, i < n → f i = g i) → rowOf f n = rowOf g n := by
  intro n
  induction n with
  | zero => intro _; rfl
  | succ n ih => intro h; rw [rowOf_succ, rowOf_succ, ih (fun i hi => h i (by omega)), h n (by omega)]
theorem rowOf_zero (f : Nat → List Value) : rowOf f 0 = [] := rfl
theorem rowOf_take {f : Nat → List Value} {s : Nat} (hf : ∀ i, (f i).length = s) : ∀ {n m : Nat}, m ≤ n → (rowOf f n).take (m * s) = rowOf f m := by
  intro n
  induction n with
  | zero => intro m h; have : m = 0 := by omega
            subst this; simp [rowOf_zero]
  | succ n ih =>
    intro m h
    rw [rowOf_succ]
    have hl := rowOf_len hf n
    rcases Nat.lt_or_eq_of_le h with h' | h'
    · have h1 : m * s ≤ n * s := Nat.mul_le_mul_right s (by omega)
      rw [List.take_append_of_le_length (by omega)]
      exact ih (by omega)
    · subst h'
      rw [← rowOf_succ]
      exact List.take_of_length_le (by rw [rowOf_len hf]; exact Nat.le_refl _)
theorem rowOf_splice {f g : Nat → List Value} {s : Nat} (hf : ∀ i, (f i).length = s) (hg : ∀ i, (g i).length = s) {k n : Nat} (hk : k < n) (hne : ∀ i, i ≠ k → g i = f i) : splice (rowOf f n) (k * s) (g k) = rowOf g n := by
  have hlf := rowOf_len hf n
  have hlg := rowOf_len hg n
  have hgk := hg k
  have hks : k * s + s ≤ n * s := by
    have := Nat.mul_le_mul_right s (show k + 1 ≤ n from hk)
    rw [Nat.succ_mul] at this; exact this
  unfold splice
  have e1 : rowOf g n = (rowOf g n).take (k * s) ++ ((rowOf g n).drop (k * s)).take s ++ (rowOf g n).drop (k * s + s) := by
    rw [List.append_assoc]
    conv => lhs; rw [← List.take_append_drop (k * s) (rowOf g n)]
    congr 1
    conv => lhs; rw [← List.take_append_drop s ((rowOf g n).drop (k * s))]
    rw [List.drop_drop]
  rw [e1, rowOf_at hg hk, rowOf_take hg (by omega), rowOf_take hf (by omega), hgk]
  congr 1
  · congr 1
    exact rowOf_congr fun i hi => (hne i (by omega)).symm
  · apply List.ext_getElem?
    intro j
    rw [List.getElem?_drop, List.getElem?_drop]
    rcases Nat.eq_zero_or_pos s with h0 | hs
    · rw [List.getElem?_eq_none (by rw [hlf, h0]; simp), List.getElem?_eq_none (by rw [hlg, h0]; simp)]
    · rcases Nat.lt_or_ge (k * s + s + j) (n * s) with hj | hj
      · have hq : (k * s + s + j) / s < n := (Nat.div_lt_iff_lt_mul hs).2 hj
        have hm := Nat.mod_lt (k * s + s + j) hs
        have hd := Nat.div_add_mod (k * s + s + j) s
        have hkq : k < (k * s + s + j) / s := by
          rw [Nat.lt_iff_add_one_le, Nat.le_div_iff_mul_le hs, Nat.succ_mul]
          omega
        have r1 : (rowOf f n)[(k * s + s + j) / s * s + (k * s + s + j) % s]? = (f ((k * s + s + j) / s))[(k * s + s + j) % s]? := by
          have h2 := congrArg (fun l => l[(k * s + s + j) % s]?) (rowOf_at hf hq)
          simp only [List.getElem?_take, List.getElem?_drop, hm, if_true] at h2
          exact h2
        have r2 : (rowOf g n)[(k * s + s + j) / s * s + (k * s + s + j) % s]? = (g ((k * s + s + j) / s))[(k * s + s + j) % s]? := by
          have h2 := congrArg (fun l => l[(k * s + s + j) % s]?) (rowOf_at hg hq)
          simp only [List.getElem?_take, List.getElem?_drop, hm, if_true] at h2
          exact h2
        rw [Nat.mul_comm _ s, hd] at r1 r2
        rw [r1, r2, hne _ (by omega)]
      · rw [List.getElem?_eq_none (by omega), List.getElem?_eq_none (by omega)]
theorem zrow_rowOf (z : List Value) (hz : z ≠ []) (n : Nat) : zrow z (n * z.length) = rowOf (fun _ => z) n := by
  have hl := rowOf_len (f := fun _ => z) (s := z.length) (fun _ => rfl) n
  have hs : 0 < z.length := List.length_pos_iff.2 hz
  apply List.ext_getElem?
  intro j
  unfold zrow
  rw [List.getElem?_map]
  rcases Nat.lt_or_ge j (n * z.length) with hj | hj
  · rw [List.getElem?_range hj]
    have hq : j / z.length < n := (Nat.div_lt_iff_lt_mul hs).2 hj
    have hm := Nat.mod_lt j hs
    have hd := Nat.div_add_mod j z.length
    have h2 := congrArg (fun l => l[j % z.length]?) (rowOf_at (f := fun _ => z) (s := z.length) (fun _ => rfl) hq)
    simp only [List.getElem?_take, List.getElem?_drop, hm, if_true] at h2
    rw [Nat.mul_comm _ z.length, hd] at h2
    rw [h2]
    simp [List.getD_eq_getElem?_getD, hm]
  · rw [List.getElem?_eq_none (l := List.range (n * z.length)) (by simpa using hj), List.getElem?_eq_none (by omega)]
    rfl

/-! ### What is kept, under other names -/
def rOf (ks : List Nat) (big : Nat) (b : Nat) : Nat := match ks[b]? with | some x => x | none => b + big
def pickH (ks : List Nat) (σ : AHeap) : AHeap := ks.map fun k => σ.getD k .dead
def plainO : AObj → Prop
  | .row vs _ _ => vs.all plain = true
  | _ => True
theorem plainO.ren {r : Nat → Nat} {o : AObj} (h : plainO o) : renO r o = o := by
  cases o with
  | row vs rw' opn =>
    simp only [renO]
    congr 1
    have key : ∀ l : List Value, l.all plain = true → l.map (renV r 3) = l := by
      intro l
      induction l with
      | nil => intro _; rfl
      | cons v l ih =>
        intro h
        rw [List.all_cons, Bool.and_eq_true] at h
        rw [List.map_cons, plain_inert h.1, ih h.2]
    exact key vs h
  | dead => rfl
  | iter s p => rfl

theorem emb_of_map {r : Nat → Nat} : ∀ (mask : List Bool) (fr1 fr' : List Value), maskF mask fr1 = fr'.map (renV r 3) → FrEmb r fr' fr1
  | _, [], [], _ => trivial
  | mask, [], b :: bs, h => by cases mask <;> simp [maskF] at h
  | mask, a :: as, [], h => by cases mask <;> simp [maskF] at h
  | [], a :: as, b :: bs, h => by
    simp only [maskF, List.map_cons, List.cons.injEq] at h
    have hm : maskF [] as = as.map fun _ => undef := by cases as <;> rfl
    refine ⟨.inl (isU_ren (by rw [← h.1]; rfl)), emb_of_map [] as bs (by rw [hm]; exact h.2)⟩
  | m :: ms, a :: as, b :: bs, h => by
    simp only [maskF, List.map_cons, List.cons.injEq] at h
    refine ⟨?_, emb_of_map ms as bs h.2⟩
    cases m
    · left; exact isU_ren (by rw [← h.1]; rfl)
    · right; exact h.1

theorem Sim.keepR {C : Cfg} {c : Code} {fr fr1 fr' : List Value} {σ0 σ σ1 σ' : AHeap} {e : Exit} {n0 : Nat} (h : Sim C n0 c fr σ e fr1 σ1) (hs : Stood C.ex σ0) (hn : n0 ≤ σ.length) (ks : List Nat) (mask : List Bool)
    (hn0 : ks.take n0 = List.range n0) (hk0 : ks.take σ0.length = List.range σ0.length) (hlt : ks.all (fun k => Nat.blt k σ1.length) = true) (hnd : ks.Nodup) (hσ : pickH ks σ1 = σ') (hfix : σ'.take σ0.length = σ0)
    (hp : ∀ b o, σ0.length ≤ b → σ'[b]? = some o → plainO o) (hf : maskF mask fr1 = fr'.map (renV (rOf ks σ1.length) 3)) : Sim C n0 c fr σ e fr' σ' := by
  have hlen : σ'.length = ks.length := by rw [← hσ]; simp [pickH]
  have hget : ∀ (b k : Nat), ks[b]? = some k → σ'[b]? = some (σ1.getD k .dead) ∧ k < σ1.length := by
    intro b k hb
    refine ⟨by rw [← hσ]; simp [pickH, hb], ?_⟩
    have := List.all_eq_true.1 hlt k (List.mem_of_getElem? hb)
    simpa [Nat.blt_eq] using this
  have hfixr : ∀ (m : Nat), ks.take m = List.range m → ∀ b, b < m → rOf ks σ1.length b = b ∧ b < ks.length := by
    intro m hm b hb
    have h1 : (ks.take m)[b]? = some b := by rw [hm, List.getElem?_range hb]
    rw [List.getElem?_take, if_pos hb] at h1
    exact ⟨by unfold rOf; rw [h1], lt_of_some h1⟩
  have hn0l : n0 ≤ ks.length := by
    rcases Nat.eq_zero_or_pos n0 with h0 | h0
    · omega
    · have := (hfixr n0 hn0 (n0 - 1) (by omega)).2; omega
  have hk0l : σ0.length ≤ ks.length := by
    rcases Nat.eq_zero_or_pos σ0.length with h0 | h0
    · omega
    · have := (hfixr _ hk0 (σ0.length - 1) (by omega)).2; omega
  refine h.embN (r := rOf ks σ1.length) hs hn (by omega) (fun b hb => (hfixr n0 hn0 b hb).1) ⟨by omega, fun b hb => ?_, fun b hb => (hfixr _ hk0 b hb).1, fun b b' o o' hb hb' _ _ e => ?_, fun b o hb hl => ?_⟩ (emb_of_map mask fr1 fr' hf)
  · unfold rOf
    rw [List.getElem?_eq_none (by omega)]
    simp only; omega
  · have h1 := lt_of_some hb
    have h2 := lt_of_some hb'
    obtain ⟨k, hk⟩ : ∃ k, ks[b]? = some k := ⟨_, List.getElem?_eq_getElem (by omega)⟩
    obtain ⟨k', hk'⟩ : ∃ k, ks[b']? = some k := ⟨_, List.getElem?_eq_getElem (by omega)⟩
    unfold rOf at e
    rw [hk, hk'] at e
    simp only at e
    subst e
    exact (List.getElem?_inj (lt_of_some hk) hnd).1 (hk.trans hk'.symm)
  · have h1 := lt_of_some hb
    obtain ⟨k, hk⟩ : ∃ k, ks[b]? = some k := ⟨_, List.getElem?_eq_getElem (by omega)⟩
    obtain ⟨g1, g2⟩ := hget b k hk
    rw [hb] at g1
    have hk1 : σ1[k]? = some o := by
      cases g1
      rw [List.getD_eq_getElem?_getD, List.getElem?_eq_getElem g2]
      rfl
    rcases Nat.lt_or_ge b σ0.length with h' | h'
    · left
      refine ⟨h', by rw [← hfix, List.getElem?_take, if_pos h']; exact hb, ?_⟩
      have := (hfixr _ hk0 b h').1
      unfold rOf at this
      rw [hk] at this
      simp only at this
      rw [← this]; exact hk1
    · right
      have : rOf ks σ1.length b = k := by unfold rOf; rw [hk]
      rw [this, (hp b o h' hb).ren]
      exact hk1
end Go.Lk
end

section
/- append, make and stores on rows that are told by functions. -/
namespace Go.Lk
set_option linter.unusedSimpArgs false
set_option linter.unusedVariables false

/-! ### append -/
/-- What the types must be: elements of z cells, not too many bytes. -/
def appOk (P : Program) (t t2 : TypeId) (z : Nat) : Bool :=
  match P.underlying t, P.underlying t2 with
  | some (.slice e), some d2 =>
    !isIntD d2 && (match P.info? e with
      | some inf => inf.size == z && Nat.ble inf.bytes 1048576 && (match tZero P e with | some zz => zz.cells.size == inf.size | none => false)
      | none => false)
  | _, _ => false

/-- The cells of a slice that a function tells. -/
theorem cells_row {σ : AHeap} {b z n m cap : Nat} {F : Nat → List Value} {rw' : Bool} {opn : Option Nat} (hσ : σ[b]? = some (.row (rowOf F m) rw' opn)) (hf : ∀ i, (F i).length = z) (hn : n ≤ m) (z' : Nat) :
    aCells σ z n (.slice (some ⟨b, 0, some z'⟩) n cap) = some (rowOf F n) := by
  have hl := rowOf_len hf m
  have hln := rowOf_len hf n
  have : n * z ≤ m * z := Nat.mul_le_mul_right z hn
  simp only [aCells, hσ]
  by_cases h0 : n * z = 0
  · rw [if_pos h0]
    congr 1
    exact (List.length_eq_zero_iff.1 (by rw [hln]; exact h0)).symm
  · rw [if_neg h0, if_pos ⟨Nat.le_refl _, by omega⟩, List.drop_zero, rowOf_take hf hn]

theorem append_grow {P : Program} {σ : AHeap} {t t2 : TypeId} {ts : List TypeId} {rest : List Value} {b N cap z : Nat} {F : Nat → List Value} {x : Value} {rw' : Bool} {opn : Option Nat}
    (hok : appOk P t t2 z = true) (hσ : σ[b]? = some (.row (rowOf F N) rw' opn)) (hrw : rw' = true ∨ opn = none) (hx : aCells σ z 1 x = some (F N)) (hlx : sLen x = some 1)
    (hf : ∀ i, (F i).length = z) (hone : (F N).all one = true) (hN : N < 67108864) (hcap : cap = N) :
    aAppend P σ (t :: t2 :: ts) (.slice (some ⟨b, 0, some z⟩) N cap :: x :: rest) = some (.slice (some ⟨σ.length, 0, some z⟩) (N + 1) (N + 1), kill σ b ++ [.row (rowOf F (N + 1)) true (some z)]) := by
  subst hcap
  unfold appOk at hok
  unfold aAppend
  cases h1 : P.underlying t with
  | none => rw [h1] at hok; cases hok
  | some d1 =>
  rw [h1] at hok
  cases h2 : P.underlying t2 with
  | none => rw [h2] at hok; cases d1 <;> cases hok
  | some d2 =>
  rw [h2] at hok
  cases d1 with
  | slice e =>
    simp only [Bool.and_eq_true, Bool.not_eq_true'] at hok
    obtain ⟨hi, hok⟩ := hok
    cases h3 : P.info? e with
    | none => rw [h3] at hok; cases hok
    | some inf =>
      rw [h3] at hok
      simp only [Bool.and_eq_true, beq_iff_eq] at hok
      obtain ⟨⟨hsz, hby⟩, hzz⟩ := hok
      have hby' := Nat.le_of_ble_eq_true hby
      simp only [h1, h2, h3, hlx, hi, cond_false, hsz, hx]
      rw [if_neg (by omega)]
      have hold : aCells σ z cap (.slice (some ⟨b, 0, some z⟩) cap cap) = some (rowOf F cap) := cells_row hσ hf (Nat.le_refl _) z
      rw [hold]
      simp only
      have hb2 : (cap + 1) * inf.bytes ≤ 70368744177664 := by
        have h4 : (cap + 1) * inf.bytes ≤ 67108864 * 1048576 := Nat.mul_le_mul (by omega) hby'
        omega
      rw [if_pos ⟨hb2, hby', by omega, hone⟩]
      cases h5 : tZero P e with
      | none => rw [h5] at hzz; cases hzz
      | some zz =>
        rw [h5] at hzz
        have hzz : zz.cells.size = inf.size := by simpa using hzz
        have hne : ¬ zz.cells.size ≠ z := by omega
        simp only [h5, hne, if_false, hσ, true_and, Nat.le_refl, if_true, hrw]
        rw [rowOf_succ]
  | _ => cases hok

/-- The first element. -/
theorem append_first {P : Program} {σ : AHeap} {t t2 : TypeId} {ts : List TypeId} {rest : List Value} {z : Nat} {F : Nat → List Value} {x : Value} {n : Nat}
    (hok : appOk P t t2 z = true) (hx : aCells σ z n x = some (rowOf F n)) (hlx : sLen x = some n) (hone : (rowOf F n).all one = true) (hn : 0 < n) (hN : n < 67108864) :
    aAppend P σ (t :: t2 :: ts) (.slice none 0 0 :: x :: rest) = some (.slice (some ⟨σ.length, 0, some z⟩) n n, σ ++ [.row (rowOf F n) true (some z)]) := by
  unfold appOk at hok
  unfold aAppend
  cases h1 : P.underlying t with
  | none => rw [h1] at hok; cases hok
  | some d1 =>
  rw [h1] at hok
  cases h2 : P.underlying t2 with
  | none => rw [h2] at hok; cases d1 <;> cases hok
  | some d2 =>
  rw [h2] at hok
  cases d1 with
  | slice e =>
    simp only [Bool.and_eq_true, Bool.not_eq_true'] at hok
    obtain ⟨hi, hok⟩ := hok
    cases h3 : P.info? e with
    | none => rw [h3] at hok; cases hok
    | some inf =>
      rw [h3] at hok
      simp only [Bool.and_eq_true, beq_iff_eq] at hok
      obtain ⟨⟨hsz, hby⟩, hzz⟩ := hok
      have hby' := Nat.le_of_ble_eq_true hby
      simp only [h1, h2, h3, hlx, hi, cond_false, hsz, hx, Nat.zero_add]
      rw [if_neg (by omega)]
      have hold : aCells σ z 0 (.slice none 0 0) = some [] := by
        unfold aCells; simp
      rw [hold]
      simp only
      have hb2 : n * inf.bytes ≤ 70368744177664 := by
        have h4 : n * inf.bytes ≤ 67108864 * 1048576 := Nat.mul_le_mul (by omega) hby'
        omega
      rw [if_pos ⟨hb2, hby', by omega, hone⟩]
      cases h5 : tZero P e with
      | none => rw [h5] at hzz; cases hzz
      | some zz =>
        rw [h5] at hzz
        have hzz : zz.cells.size = inf.size := by simpa using hzz
        have hne : ¬ zz.cells.size ≠ z := by omega
        simp only [h5, hne, if_false, List.nil_append]
  | _ => cases hok

/-! ### make -/
def mkOk (P : Program) (t : TypeId) (zs : List Value) : Bool :=
  match P.underlying t with
  | some (.slice e) =>
    match P.info? e with
    | some inf => Nat.ble inf.bytes 1048576 && inf.size == zs.length && !(inf.size == 0)
    | none => false
  | _ => false
theorem make_row {P : Program} {σ : AHeap} {t : TypeId} {zs : List Value} {k k' : IntKind} {l N : Nat} (hok : mkOk P t zs = true) (hz : (match P.underlying t with | some (.slice e) => (tZero P e).map (fun z => z.cells.toList) | _ => none) = some zs) (hone : zs.all one = true) (hl : l ≤ N) (hN : N < 67108864) :
    aMake P σ t (.int k (iN l)) (.int k' (iN N)) = some (.slice (some ⟨σ.length, 0, some zs.length⟩) l N, σ ++ [.row (rowOf (fun _ => zs) N) true none]) := by
  unfold mkOk at hok
  unfold aMake
  cases h1 : P.underlying t with
  | none => rw [h1] at hok; cases hok
  | some d1 =>
  rw [h1] at hok hz
  cases d1 with
  | slice e =>
    simp only at hok hz
    cases h3 : P.info? e with
    | none => rw [h3] at hok; cases hok
    | some inf =>
      rw [h3] at hok
      simp only [Bool.and_eq_true, beq_iff_eq, Bool.not_eq_true', beq_eq_false_iff_ne] at hok
      obtain ⟨⟨hby, hsz⟩, h0⟩ := hok
      have hby' := Nat.le_of_ble_eq_true hby
      simp only [h1, h3]
      have hb2 : (N : Int) * inf.bytes ≤ 281474976710656 := by
        have h4 : N * inf.bytes ≤ 67108864 * 1048576 := Nat.mul_le_mul (by omega) hby'
        have : ((N * inf.bytes : Nat) : Int) ≤ ((67108864 * 1048576 : Nat) : Int) := Int.ofNat_le.2 h4
        rw [Int.natCast_mul] at this
        omega
      have hcond : 0 ≤ iN l ∧ iN l ≤ iN N ∧ iN N * inf.bytes ≤ 281474976710656 ∧ iN N ≤ 281474976710656 := by
        rw [iN_eq, iN_eq]; exact ⟨by omega, by omega, hb2, by omega⟩
      have e1 : (iN l).toNat = l := rfl
      have e2 : (iN N).toNat = N := rfl
      rw [if_pos hcond]
      cases h5 : tZero P e with
      | none => rw [h5] at hz; cases hz
      | some zz =>
        rw [h5] at hz
        have hz : zz.cells.toList = zs := by simpa using hz
        have hzl : zz.cells.size = inf.size := by rw [hsz, ← hz]; simp
        simp only [h5, hz, e1, e2]
        rw [if_pos ⟨hzl, h0, hone⟩, hsz, zrow_rowOf zs (by intro h; rw [h] at hsz; exact h0 (by simpa using hsz)) N]
  | _ => cases hok

/-! ### stores -/
theorem store_row {P : Program} {σ : AHeap} {t : TypeId} {v : Value} {b z N k off : Nat} {f g : Nat → List Value} {opn : Option Nat} (hσ : σ[b]? = some (.row (rowOf f N) true opn)) (ht : tSize P t = some z) (hf : ∀ i, (f i).length = z) (hg : ∀ i, (g i).length = z)
    (hv : v.cells.toList = g k) (hone : (g k).all one = true) (ho : off = k * z) (hk : k < N) (hne : ∀ i, i ≠ k → g i = f i) :
    aStore P σ t (.pointer (some ⟨b, off, none⟩)) v = some (σ.set b (.row (rowOf g N) true opn)) := by
  unfold aStore
  simp only [hσ, ht, hv]
  have hl := rowOf_len hf N
  have h1 : k * z + z ≤ N * z := by
    have := Nat.mul_le_mul_right z (show k + 1 ≤ N from hk)
    rw [Nat.succ_mul] at this; exact this
  rw [if_pos ⟨hg k, by rw [hg k]; omega, hone⟩, ho, rowOf_splice hf hg hk hne]
/-- A row of which the first k elements are written. -/
def half2 (G Z : Nat → List Value) (k : Nat) : Nat → List Value := fun i => bif Nat.blt i k then G i else Z i
theorem half2_len {G Z : Nat → List Value} {s : Nat} (hg : ∀ i, (G i).length = s) (hz : ∀ i, (Z i).length = s) (k i : Nat) : (half2 G Z k i).length = s := by
  unfold half2; cases Nat.blt i k; exact hz i; exact hg i
theorem half2_at (G Z : Nat → List Value) (k : Nat) : half2 G Z (k + 1) k = G k := by
  unfold half2
  have : Nat.blt k (k + 1) = true := by rw [Nat.blt_eq]; omega
  rw [this]; rfl
theorem half2_ne (G Z : Nat → List Value) (k i : Nat) (h : i ≠ k) : half2 G Z (k + 1) i = half2 G Z k i := by
  unfold half2
  have : Nat.blt i (k + 1) = Nat.blt i k := by
    rw [Bool.eq_iff_iff, Nat.blt_eq, Nat.blt_eq]; omega
  rw [this]
theorem half2_zero (G Z : Nat → List Value) (n : Nat) : rowOf (half2 G Z 0) n = rowOf Z n := rowOf_congr fun i _ => by
  unfold half2
  have : Nat.blt i 0 = false := by cases h : Nat.blt i 0; rfl; rw [Nat.blt_eq] at h; omega
  rw [this]; rfl
theorem half2_full (G Z : Nat → List Value) (n : Nat) : rowOf (half2 G Z n) n = rowOf G n := rowOf_congr fun i hi => by
  unfold half2
  have : Nat.blt i n = true := by rw [Nat.blt_eq]; exact hi
  rw [this]; rfl
theorem half2_all {G Z : Nat → List Value} {p : Value → Bool} (hg : ∀ i, (G i).all p = true) (hz : ∀ i, (Z i).all p = true) (k i : Nat) : (half2 G Z k i).all p = true := by
  unfold half2; cases Nat.blt i k; exact hz i; exact hg i
/-- A store. -/
def stF (o : Option AHeap) : Option (Value × AHeap) :=
  match o with
  | some σ => some (undef, σ)
  | none => none
theorem stF_ok {o : Option AHeap} {σ : AHeap} (h : o = some σ) : stF o = some (undef, σ) := by rw [h]; rfl

/-! ### Rounds under other names -/
def PlainL : List AObj → Prop
  | [] => True
  | o :: l => plainO o ∧ PlainL l
theorem PlainL.get : ∀ {l : List AObj}, PlainL l → ∀ (b : Nat) (o : AObj), l[b]? = some o → plainO o
  | [], _, b, o, h => by simp at h
  | x :: l, hp, 0, o, h => by simp at h; rw [← h]; exact hp.1
  | x :: l, hp, b + 1, o, h => by simp at h; exact PlainL.get hp.2 b o h
def roundQ (C : Cfg) (X : List Nat) (n : Nat) (body : Code) (orc : Orc) (ks : List Nat) (mask : List Bool) (fr : List Value) (σ : AHeap) : Option (List Prop × Exit × List Value × AHeap × Nat) :=
  match DO C X n body 0 orc fr σ with
  | some (ps, e, _, _, fr1, σ1) => bif ks.all (fun k => Nat.blt k σ1.length) then some (ps, e, maskF mask fr1, pickH ks σ1, σ1.length) else none
  | none => none
theorem Sim.of_roundQ {C : Cfg} (hC : C.Ok) {X : List Nat} {n : Nat} {body : Code} {orc : Orc} {ks : List Nat} {mask : List Bool} {fr fr' : List Value} {σ σ' σ0 : AHeap} {ps : List Prop} {e : Exit} {L : Nat} (n0 : Nat) (hok : codeOkX C X body = true)
    (h : roundQ C X n body orc ks mask fr σ = some (ps, e, fr'.map (renV (rOf ks L) 3), σ', L)) (hp : All ps) (hst : Stood C.ex σ0) (hn : Nat.ble n0 σ.length = true) (hn0 : ks.take n0 = List.range n0) (hk0 : ks.take σ0.length = List.range σ0.length) (hnd : ks.Nodup)
    (hfix : σ'.take σ0.length = σ0) (hpl : PlainL (σ'.drop σ0.length)) : Sim C n0 body fr σ e fr' σ' := by
  unfold roundQ at h
  split at h
  · rename_i ps1 e1 t1 o1 fr1 σ1 hd
    cases hb : (ks.all fun k => Nat.blt k σ1.length)
    · rw [hb] at h; cases h
    · rw [hb] at h
      simp only [cond_true, Option.some.injEq, Prod.mk.injEq] at h
      obtain ⟨h1, h2, h3, h4, h5⟩ := h
      subst h1 h2 h5
      have hn' := Nat.le_of_ble_eq_true hn
      exact Sim.keepR ((DO_sound hC X n _ _ _ _ _ hok hd hp).1.le hn') hst hn' ks mask hn0 hk0 hb hnd h4 hfix (fun b o h1 h2 => PlainL.get hpl (b - σ0.length) o (by rw [List.getElem?_drop, show σ0.length + (b - σ0.length) = b by omega]; exact h2)) h3
  · cases h
end Go.Lk
end

section
/- Rounds whose kept rows hold addresses of blocks that stay. -/
namespace Go.Lk
set_option linter.unusedSimpArgs false
set_option linter.unusedVariables false
def Stay (n0 : Nat) (o : AObj) : Prop := ∀ r : Nat → Nat, (∀ b, b < n0 → r b = b) → renO r o = o
def StayL (n0 : Nat) : List AObj → Prop
  | [] => True
  | o :: l => Stay n0 o ∧ StayL n0 l
theorem StayL.get {n0 : Nat} : ∀ {l : List AObj}, StayL n0 l → ∀ (b : Nat) (o : AObj), l[b]? = some o → Stay n0 o
  | [], _, b, o, h => by simp at h
  | x :: l, hp, 0, o, h => by simp at h; rw [← h]; exact hp.1
  | x :: l, hp, b + 1, o, h => by simp at h; exact StayL.get hp.2 b o h
end Go.Lk
end

section
/- Rounds over a heap that is not known block by block. -/
namespace Go.Lk
set_option linter.unusedSimpArgs false
set_option linter.unusedVariables false
theorem maskF_len : ∀ (bs : List Bool) (vs : List Value), (maskF bs vs).length = vs.length
  | [], vs => by cases vs <;> simp [maskF]
  | b :: bs, [] => by simp [maskF]
  | b :: bs, v :: vs => by simp [maskF, maskF_len bs vs]
theorem maskF_get : ∀ (bs : List Bool) (vs : List Value) (i : Nat) (a : Value), (maskF bs vs)[i]? = some a → isU a = true ∨ vs[i]? = some a
  | [], vs, i, a, h => by
    left
    have : maskF [] vs = vs.map fun _ => undef := by cases vs <;> rfl
    rw [this, List.getElem?_map] at h
    cases hv : vs[i]? with
    | none => rw [hv] at h; cases h
    | some v => rw [hv] at h; cases h; rfl
  | b :: bs, [], i, a, h => by simp [maskF] at h
  | b :: bs, v :: vs, 0, a, h => by
    simp only [maskF, List.getElem?_cons_zero, Option.some.injEq] at h
    cases b
    · left; rw [← h]; rfl
    · right; rw [← h]; rfl
  | b :: bs, v :: vs, i + 1, a, h => by
    simp only [maskF, List.getElem?_cons_succ] at h ⊢
    exact maskF_get bs vs i a h
/-- A frame of which less is told. -/
theorem Sim.mask {C : Cfg} {c : Code} {fr fr1 : List Value} {σ σ1 : AHeap} {e : Exit} {n0 : Nat} (h : Sim C n0 c fr σ e fr1 σ1) (mask : List Bool) : Sim C n0 c fr σ e (maskF mask fr1) σ1 := by
  intro B μ tmps defers w Q hf0 hr hQ
  refine h B μ tmps defers w Q hf0 hr ?_
  intro μ1 tmps' w' q1 q2 q3 q4
  refine hQ μ1 tmps' w' ⟨by rw [maskF_len]; exact q1.1, fun i a ha => ?_⟩ q2 q3 q4
  rcases maskF_get mask fr1 i a ha with hu | hb
  · have hlt := lt_of_some ha
    rw [maskF_len] at hlt
    exact ⟨_, Array.getElem?_eq_getElem (by rw [← q1.1]; exact hlt), .inl hu⟩
  · exact q1.2 i a hb
def roundV (C : Cfg) (X : List Nat) (n : Nat) (body : Code) (orc : Orc) (mask : List Bool) (fr : List Value) (σ : AHeap) : Option (List Prop × Exit × List Value × AHeap) :=
  match DO C X n body 0 orc fr σ with
  | some (ps, e, _, _, fr1, σ1) => some (ps, e, maskF mask fr1, σ1)
  | none => none
theorem Sim.of_roundV {C : Cfg} (hC : C.Ok) {X : List Nat} {n : Nat} {body : Code} {orc : Orc} {mask : List Bool} {fr fr' : List Value} {σ σ' : AHeap} {ps : List Prop} {e : Exit} (hok : codeOkX C X body = true)
    (h : roundV C X n body orc mask fr σ = some (ps, e, fr', σ')) (hp : All ps) : Sim C σ.length body fr σ e fr' σ' ∧ σ.length ≤ σ'.length := by
  unfold roundV at h
  split at h
  · rename_i ps1 e1 t1 o1 fr1 σ1 hd
    simp only [Option.some.injEq, Prod.mk.injEq] at h
    obtain ⟨h1, h2, h3, h4⟩ := h
    subst h1 h2 h3 h4
    have := DO_sound hC X n _ _ _ _ _ hok hd hp
    exact ⟨this.1.mask mask, this.2.1⟩
  · cases h
end Go.Lk
end

section
/- Whole parts; wrapping. -/
namespace Go.Lk
open Ieee (Format Datum Toward)
set_option linter.unusedSimpArgs false
set_option linter.unusedVariables false

/-- One, in units of the least place. -/
def U : Nat := 2 ^ 1074
theorem U_spec : ∃ n, n = 1074 ∧ U = 2 ^ n := ⟨1074, rfl, by unfold U; rfl⟩
theorem U_pos : 0 < U := by obtain ⟨n, _, h⟩ := U_spec; rw [h]; exact Nat.two_pow_pos n

theorem U_of : 2 ^ ((0 : Int) + 1074).toNat = U := by
  obtain ⟨n, hn, hU⟩ := U_spec
  rw [hU]
  have : ((0 : Int) + 1074).toNat = n := by clear hU; omega
  rw [this]
/-! ### Signs -/
theorem xor_lo {r : Nat} (h : r < 2 ^ 63) : r ^^^ 2 ^ 63 = 2 ^ 63 + r := by
  apply Nat.eq_of_testBit_eq
  intro i
  rw [Nat.testBit_xor, Nat.testBit_two_pow]
  rcases Nat.lt_trichotomy i 63 with hi | rfl | hi
  · rw [Nat.testBit_two_pow_add_gt hi]
    have : decide (63 = i) = false := by simp; omega
    rw [this]; simp
  · rw [Nat.testBit_two_pow_add_eq]
    have : r.testBit 63 = false := Nat.testBit_lt_two_pow h
    simp [this]
  · have h1 : r.testBit i = false := Nat.testBit_lt_two_pow (Nat.lt_of_lt_of_le h (pow_ge (by omega)))
    have h2 : (2 ^ 63 + r).testBit i = false := Nat.testBit_lt_two_pow (Nat.lt_of_lt_of_le (show 2 ^ 63 + r < 2 ^ 64 by omega) (pow_ge (by omega)))
    have : decide (63 = i) = false := by simp; omega
    rw [h1, h2, this]; rfl
theorem xor_wd {s : Bool} {r : Nat} (h : r < 2 ^ 63) : wd s r ^^^ 2 ^ 63 = wd (!s) r := by
  cases s
  · exact xor_lo h
  · show (2 ^ 63 + r) ^^^ 2 ^ 63 = r
    rw [← xor_lo h, Nat.xor_assoc, Nat.xor_self, Nat.xor_zero]
theorem fneg_wd {s : Bool} {r : Nat} (h : r ≤ 2047 * 2 ^ 52) : fneg (wd s r) = wd (!s) r := by
  unfold fneg
  have : isNaN (wd s r) = false := by rw [isNaN_iff, rg_wd (by omega)]; simp; omega
  rw [this]; exact xor_wd (by omega)
theorem Canon.fneg {x : Nat} (h : Canon x) : Canon (fneg x) := by
  rcases h.three with h' | ⟨s, rfl⟩ | rfl
  · have hr : rg x < 2047 * 2 ^ 52 := of_decide_eq_true h'
    rw [← wd_sg h.lt, fneg_wd (by omega)]
    exact ⟨wd_lt (by omega), fun h => by rw [fin_num (fin_wd hr)] at h; cases h⟩
  · rw [fneg_wd (by omega)]
    exact ⟨wd_lt (by omega), fun h => by rw [isNaN_iff, rg_wd (by omega)] at h; simp at h⟩
  · exact Canon.qnan
theorem fneg_fin {x : Nat} (hl : x < 2 ^ 64) (h : isFin x = true) : isFin (fneg x) = true ∧ fx (fneg x) = - fx x ∧ sg (fneg x) = !sg x := by
  have hr : rg x < 2047 * 2 ^ 52 := of_decide_eq_true h
  have e : fneg x = wd (!sg x) (rg x) := by
    have h1 : fneg (wd (sg x) (rg x)) = wd (!sg x) (rg x) := fneg_wd (by omega)
    rwa [wd_sg hl] at h1
  rw [e]
  exact ⟨fin_wd hr, by rw [fx_wd (by omega), sgn_not]; rfl, sg_wd (by omega)⟩

/-! ### Whole parts -/
/-! ### Wrapping -/
def fcopysign (a b : Nat) : Nat := bif isNaN a then qnan else wd (sg b) (rg a)
def fabs (a : Nat) : Nat := bif isNaN a then qnan else rg a
def half : Nat := 4602678819172646912
def mhalf : Nat := 13826050856027422720
def fone : Nat := 4607182418800017408
def wStep (r : Nat) : Nat := bif fge r half then fsub r fone else bif flt r mhalf then fadd r fone else r
/-- The program's. -/
def wrapP (x : Nat) : Nat := bif feq (fsub x x) 0 then fadd (wStep (fcopysign (fsub x (ftrunc x)) x)) 0 else qnan
theorem fin_one : isFin fone = true := by decide
theorem Canon.wStep {d : Nat} (h : Canon d) : Canon (wStep d) := by
  unfold Lk.wStep
  cases fge d half
  · cases flt d mhalf
    · exact h
    · exact Canon.fadd _ _
  · exact Canon.fsub _ _
theorem Canon.wrapP (x : Nat) : Canon (wrapP x) := by
  unfold Lk.wrapP
  cases feq (Lk.fsub x x) 0
  · exact Canon.qnan
  · exact Canon.fadd _ _
end Go.Lk
end

section
/- A function that writes into rows: what stands elsewhere is as it was. -/
namespace Go.Lk
set_option linter.unusedSimpArgs false
set_option linter.unusedVariables false

theorem Stood.none {ex : Bool} {σ : AHeap} (h : Stood ex σ) : Stood ex [] := by
  obtain ⟨B, μ, w, h⟩ := h
  exact ⟨B, [], w, rfl, h.hB, fun b o hb => by simp at hb, fun b o e hb => by simp at hb, fun b b' o o' e e' hb => by simp at hb⟩
/-- Is the small heap's block k one that may be written? -/
def wrk (σ0 : AHeap) (k : Nat) : Bool := match σ0[k]? with | some (.row _ true _) => true | _ => false
theorem wrk_of {σ0 : AHeap} {k : Nat} {vs : List Value} {opn : Option Nat} (h : σ0[k]? = some (.row vs true opn)) : wrk σ0 k = true := by unfold wrk; rw [h]
/-- The small heap's rows are rows of the great one. -/
structure Part (σ0 : AHeap) (r : Nat → Nat) (σ : AHeap) : Prop where
  row : ∀ b o, σ0[b]? = some o → ∃ vs rw rw' opn, o = .row vs rw opn ∧ σ[r b]? = some (.row vs rw' opn) ∧ (rw = true → rw' = true) ∧ vs.all plain = true
  inj : ∀ b b', b < σ0.length → b' < σ0.length → r b = r b' → b = b'
  out : ∀ b, σ0.length ≤ b → σ.length ≤ r b

/-- What the small call must not touch. -/
def rest (B : Nat → Prop) (μ : List (Option Ent)) (σ0 : AHeap) (r : Nat → Nat) (w : World) : Nat → Prop :=
  fun c => B c ∨ (c < w.heap.size ∧ ∀ k e, wrk σ0 k = true → μ[r k]? = some (some e) → e.cb ≠ c)

theorem Part.back {ex : Bool} {B : Nat → Prop} {μ : List (Option Ent)} {σ0 σ : AHeap} {w : World} {r : Nat → Nat} (h : HR ex B μ σ w) (hs : Part σ0 r σ) : ∀ b e, μ[r b]? = some (some e) → (renM μ r σ0.length)[b]? = some (some e) := by
  intro b e hb
  refine renM_back ?_ hb
  rcases Nat.lt_or_ge b σ0.length with h' | h'
  · exact h'
  · have := hs.out b h'
    have := lt_of_some hb
    have := h.len
    omega

theorem Part.heap {ex : Bool} {B : Nat → Prop} {μ : List (Option Ent)} {σ0 σ : AHeap} {w : World} {r : Nat → Nat} (h : HR ex B μ σ w) (hs : Part σ0 r σ) : HR ex (rest B μ σ0 r w) (renM μ r σ0.length) σ0 w := by
  refine ⟨by simp [renM], fun k hk => ?_, fun b o hb hl => ?_, fun b o e hb he => ?_, fun b b' o o' e e' hb hb' he he' ho hl hc => ?_⟩
  · rcases hk with hk | hk
    · exact h.hB k hk
    · exact hk.1
  · obtain ⟨vs, rw, rw', opn, rfl, h2, h3, h4⟩ := hs.row b o hb
    obtain ⟨e, he⟩ := h.has _ _ h2 rfl
    exact ⟨e, hs.back h b e he⟩
  · obtain ⟨vs, rw, rw', opn, rfl, h2, h3, h4⟩ := hs.row b o hb
    obtain ⟨_, hm⟩ := renM_some he
    obtain ⟨g0, g1, c, el, lo, hi, g2, g3, g4, g5⟩ := h.obj _ _ _ h2 hm
    refine ⟨g0, g1, c, el, lo, hi, g2, g3, g4.plain_to h4, fun hw => ⟨?_, (g5 (h3 hw)).2⟩⟩
    rintro (hb1 | hb1)
    · exact (g5 (h3 hw)).1 hb1
    · subst hw
      exact hb1.2 b e (wrk_of hb) hm rfl
  · obtain ⟨vs, rw, rw', opn, rfl, h2, h3, h4⟩ := hs.row b o hb
    obtain ⟨vs2, rw2, rw2', opn2, rfl, k2, k3, k4⟩ := hs.row b' o' hb'
    obtain ⟨_, hm⟩ := renM_some he
    obtain ⟨_, hm'⟩ := renM_some he'
    have hw : rw = true := by simpa [AObj.owned] using ho
    have := h.inj _ _ _ _ _ _ h2 k2 hm hm' (by simp [AObj.owned, h3 hw]) rfl hc
    exact hs.inj _ _ (lt_of_some hb) (lt_of_some hb') this

/-! ### A row without spare room is one of unknown spare room -/
end Go.Lk
end

section
/- append within a slice's room; rows of rows. -/
namespace Go.Lk
set_option linter.unusedSimpArgs false
set_option linter.unusedVariables false
theorem bnd_no (d y : Nat) : bnd none d y = some d := rfl
theorem bnd_int {k : IntKind} {i d y : Nat} (h : i ≤ y) : bnd (some (.int k (iN i))) d y = some i := by
  unfold bnd
  simp only
  rw [if_pos ⟨by rw [iN_eq]; omega, by rw [iN_eq]; omega⟩]
  rfl
theorem slice_op {P : Program} {t e : TypeId} {z b o len cap l h off' n' c' : Nat} {low high : Option Value} (hu : P.underlying t = some (.slice e)) (hz : tSize P e = some z) (hl : bnd low 0 h = some l) (hh : bnd high len cap = some h) (hc : h ≤ cap)
    (ho : off' = o + l * z) (hn : n' = h - l) (hcap : c' = cap - l) :
    aSlice P t (.slice (some ⟨b, o, some z⟩) len cap) low high none = some (.slice (some ⟨b, off', some z⟩) n' c') := by
  unfold aSlice
  simp only [hu, hz]
  unfold bnds
  have h1 : bnd none cap cap = some cap := rfl
  simp only [h1, Option.isSome_none, Bool.false_and, Bool.false_eq_true, if_false, hh, hl]
  rw [if_pos ⟨trivial, hc⟩, ho, hn, hcap]
end Go.Lk
end

section
/- A row of which one element is written. -/
namespace Go.Lk
set_option linter.unusedVariables false
end Go.Lk
end

section
/- Rounding keeps the order; bounds. -/
namespace Go.Lk
open Ieee (Format Datum Toward)
set_option linter.unusedSimpArgs false
set_option linter.unusedVariables false

theorem rne_le_of {m D v : Nat} (h : m ≤ v * 2 ^ D) : rne m D ≤ v := by
  have hp : 0 < 2 ^ D := Nat.two_pow_pos D
  have hd : m / 2 ^ D ≤ v := by
    rw [Nat.div_le_iff_le_mul_add_pred hp]
    have : v * 2 ^ D = 2 ^ D * v := Nat.mul_comm _ _
    omega
  rcases Nat.lt_or_eq_of_le hd with h1 | h1
  · have := rne_le m D; omega
  · have h0 : m % 2 ^ D = 0 := by
      have := Nat.div_add_mod m (2 ^ D)
      rw [h1] at this
      have : 2 ^ D * v = v * 2 ^ D := Nat.mul_comm _ _
      omega
    unfold rne
    rw [h0, h1]
    have : (2 ^ D == 2 * 0) = false := by simp
    rw [this]
    simp

/-- The rung of m / 2^q units. -/
def rungQ (m q : Nat) : Nat := (max (m.log2 - 52) q - q) * 2 ^ 52 + rne m (max (m.log2 - 52) q)

theorem rungQ_kept (m q : Nat) : (max (m.log2 - 52) q - q = 0 ∧ rne m (max (m.log2 - 52) q) < 2 ^ 53) ∨ (2 ^ 52 ≤ rne m (max (m.log2 - 52) q) ∧ rne m (max (m.log2 - 52) q) ≤ 2 ^ 53) := by
  rcases Nat.lt_or_ge q (m.log2 - 52) with h | h
  · rw [Nat.max_eq_left (by omega)]
    right
    have := kept_range m
    unfold kd52 at this
    omega
  · rw [Nat.max_eq_right (by omega)]
    rcases Nat.lt_or_ge (rne m q) (2 ^ 53) with h1 | h1
    · left; omega
    · right
      refine ⟨by omega, ?_⟩
      have hm : m ≤ 2 ^ 53 * 2 ^ q := by
        rcases Nat.eq_zero_or_pos m with rfl | hm
        · omega
        · have : m < 2 ^ (m.log2 + 1) := Nat.lt_log2_self
          have h2 : 2 ^ (m.log2 + 1) ≤ 2 ^ 53 * 2 ^ q := by rw [← Nat.pow_add]; exact pow_ge (by omega)
          exact Nat.le_of_lt (Nat.lt_of_lt_of_le this h2)
      exact rne_le_of hm
theorem rungQ_val (m q : Nat) : fxr (rungQ m q) = rne m (max (m.log2 - 52) q) * 2 ^ (max (m.log2 - 52) q - q) := fxr_add (rungQ_kept m q)

theorem rungQ_le {m q R : Nat} (h : m ≤ fxr R * 2 ^ q) : rungQ m q ≤ R := by
  refine fxr_le.1 ?_
  rw [rungQ_val]
  rcases Nat.lt_or_ge q (m.log2 - 52) with hq | hq
  · rw [Nat.max_eq_left (by omega)]
    generalize hD : m.log2 - 52 = D at *
    have hm0 : m ≠ 0 := by rintro rfl; simp at hD; omega
    have h1 : 2 ^ m.log2 ≤ m := Nat.log2_self_le hm0
    have hl : m.log2 = 52 + D := by omega
    rw [hl] at h1
    obtain ⟨c, j, e, hc⟩ := fxr_form R
    -- fxr R is a multiple of 2^(D-q)
    have hj : D - q ≤ j := by
      rcases Nat.lt_or_ge j (D - q) with hlt | hge
      · exfalso
        have h2 : fxr R * 2 ^ q < 2 ^ 53 * 2 ^ (j + q) := by
          rw [e, Nat.mul_assoc, ← Nat.pow_add]
          exact Nat.mul_lt_mul_of_pos_right hc (Nat.two_pow_pos _)
        rw [← Nat.pow_add] at h2
        have h3 : 2 ^ (53 + (j + q)) ≤ 2 ^ (52 + D) := pow_ge (by omega)
        omega
      · exact hge
    have e2 : fxr R = c * 2 ^ (j - (D - q)) * 2 ^ (D - q) := by rw [e, Nat.mul_assoc, ← Nat.pow_add]; congr 2; omega
    have h4 : m ≤ c * 2 ^ (j - (D - q)) * 2 ^ D := by
      rw [e2, Nat.mul_assoc, ← Nat.pow_add, show D - q + q = D by omega] at h
      exact h
    rw [e2]
    exact Nat.mul_le_mul_right _ (rne_le_of h4)
  · rw [Nat.max_eq_right (by omega), Nat.sub_self, Nat.pow_zero, Nat.mul_one]
    exact rne_le_of h
theorem nearest_neg (s : Bool) (m : Nat) (p : Int) (q : Nat) (hp : p = -1074 - (q : Int)) (hm : m ≠ 0) : dbl.nearest s m p = wd s (min (rungQ m q) (2047 * 2 ^ 52)) := by
  unfold Format.nearest
  rw [if_neg hm]
  simp only [fb_eq, lp_eq, bin_eq, inf_eq, word_eq, cut_even, Nat.shiftLeft_eq]
  have hlast : max (p + m.log2 - (52 : Nat)) (-1074) = p + (max (m.log2 - 52) q : Nat) := by omega
  rw [hlast]
  have e1 : (p - (p + (max (m.log2 - 52) q : Nat))).toNat = 0 := by omega
  have e2 : (p + (max (m.log2 - 52) q : Nat) - p).toNat = max (m.log2 - 52) q := by omega
  have e3 : (p + (max (m.log2 - 52) q : Nat) - -1074).toNat = max (m.log2 - 52) q - q := by omega
  rw [e1, e2, e3, Nat.pow_zero, Nat.mul_one]
  rfl

/-! ### Wrapped numbers -/
theorem fx_one : fx fone = (U : Int) := by decide +kernel
theorem fx_abs (x : Nat) : (fx x).natAbs = fxr (rg x) := sgn_abs _ _
end Go.Lk
end

section
/- Between what each operation's result lies: products, quotients, roots; how far from them it may be. -/
namespace Go.Lk
open Ieee (Format Datum Toward)
set_option linter.unusedSimpArgs false
set_option linter.unusedVariables false

def infR : Nat := 2047 * 2 ^ 52
theorem rne_ge_of {m D v : Nat} (h : v * 2 ^ D ≤ m) : v ≤ rne m D :=
  Nat.le_trans ((Nat.le_div_iff_mul_le (Nat.two_pow_pos D)).2 h) (rne_ge m D)
theorem rungQ_ge {m q R : Nat} (h : fxr R * 2 ^ q ≤ m) : R ≤ rungQ m q := by
  refine fxr_le.1 ?_
  rw [rungQ_val]
  rcases Nat.lt_or_ge q (m.log2 - 52) with hq | hq
  · rw [Nat.max_eq_left (by omega)]
    generalize hD : m.log2 - 52 = D at *
    have hm0 : m ≠ 0 := by rintro rfl; simp at hD; omega
    have h1 : 2 ^ m.log2 ≤ m := Nat.log2_self_le hm0
    have hl : m.log2 = 52 + D := by omega
    rw [hl] at h1
    obtain ⟨c, j, e, hc⟩ := fxr_form R
    rcases Nat.lt_or_ge j (D - q) with hlt | hge
    · have h2 : fxr R < 2 ^ 53 * 2 ^ j := by rw [e]; exact Nat.mul_lt_mul_of_pos_right hc (Nat.two_pow_pos _)
      have h3 : 2 ^ 52 ≤ rne m D := rne_ge_of (by rw [← Nat.pow_add]; exact h1)
      have h4 : 2 ^ 53 * 2 ^ j ≤ 2 ^ 52 * 2 ^ (D - q) := by rw [← Nat.pow_add, ← Nat.pow_add]; exact pow_ge (by omega)
      exact Nat.le_of_lt (Nat.lt_of_lt_of_le h2 (Nat.le_trans h4 (Nat.mul_le_mul_right _ h3)))
    · have e2 : fxr R = c * 2 ^ (j - (D - q)) * 2 ^ (D - q) := by rw [e, Nat.mul_assoc, ← Nat.pow_add]; congr 2; omega
      have h4 : c * 2 ^ (j - (D - q)) * 2 ^ D ≤ m := by
        rw [e2, Nat.mul_assoc, ← Nat.pow_add, show D - q + q = D by omega] at h
        exact h
      rw [e2]
      exact Nat.mul_le_mul_right _ (rne_ge_of h4)
  · rw [Nat.max_eq_right (by omega), Nat.sub_self, Nat.pow_zero, Nat.mul_one]
    exact rne_ge_of h
theorem rungQ_shl (m q k : Nat) (hm : m ≠ 0) : rungQ (m * 2 ^ k) (q + k) = rungQ m q := by
  unfold rungQ
  rw [log2_shl k hm]
  have : max (m.log2 + k - 52) (q + k) = max (m.log2 - 52) q + k := by omega
  rw [this, rne_shl]
  congr 2
  omega
theorem rungQ_0 (q : Nat) : rungQ 0 q = 0 := Nat.le_zero.1 (rungQ_le (by rw [fxr_zero]; omega))
theorem rung_Q (T : Nat) : rung T = min (rungQ T 0) (2047 * 2 ^ 52) := by
  unfold rung rungQ kd52
  simp only [Nat.max_zero, Nat.sub_zero]
theorem nearest_any (s : Bool) (m : Nat) (p : Int) (M q : Nat) (hq : 0 ≤ p + 1074 + q) (h : M = m * 2 ^ (p + 1074 + q).toNat) : dbl.nearest s m p = wd s (min (rungQ M q) (2047 * 2 ^ 52)) := by
  by_cases hm : m = 0
  · subst hm
    rw [Nat.zero_mul] at h
    subst h
    rw [rungQ_0]
    unfold Format.nearest
    rw [if_pos rfl, word_eq]
    rfl
  · rcases Int.lt_or_le (p + 1074) 0 with hp | hp
    · rw [nearest_neg s m p (-1074 - p).toNat (by omega) hm, h]
      have e := rungQ_shl m (-1074 - p).toNat (p + 1074 + q).toNat hm
      rw [show (-1074 - p).toNat + (p + 1074 + q).toNat = q by omega] at e
      rw [e]
    · rw [nearest_eq s m p (by omega), rung_Q, h]
      have e := rungQ_shl (m * 2 ^ (p + 1074).toNat) 0 q (Nat.mul_ne_zero hm (Nat.ne_of_gt (Nat.two_pow_pos _)))
      rw [Nat.mul_assoc, ← Nat.pow_add, show (p + 1074).toNat + q = (p + 1074 + q).toNat by omega, Nat.zero_add] at e
      rw [e]

/-- The rung r is one that num / den lies at: it is between each two that num / den lies between. -/
def Near (num den r : Nat) : Prop := r ≤ infR ∧ ∀ R, R ≤ infR → (fxr R * den ≤ num → R ≤ r) ∧ (num ≤ fxr R * den → r ≤ R)
theorem near_rungQ (m q : Nat) : Near m (2 ^ q) (min (rungQ m q) (2047 * 2 ^ 52)) :=
  ⟨Nat.min_le_right .., fun R hR => ⟨fun h => Nat.le_min.2 ⟨rungQ_ge h, hR⟩, fun h => Nat.le_trans (Nat.min_le_left ..) (rungQ_le h)⟩⟩
theorem Near.cast {n d n' d' r : Nat} (h : Near n d r) (h1 : ∀ R, R ≤ infR → (fxr R * d' ≤ n' → fxr R * d ≤ n)) (h2 : ∀ R, R ≤ infR → (n' ≤ fxr R * d' → n ≤ fxr R * d)) : Near n' d' r :=
  ⟨h.1, fun R hR => ⟨fun k => (h.2 R hR).1 (h1 R hR k), fun k => (h.2 R hR).2 (h2 R hR k)⟩⟩
theorem fmul_near {x y : Nat} (hx : isFin x = true) (hy : isFin y = true) : ∃ r, fmul x y = wd (sg x ^^ sg y) r ∧ Near (fxr (rg x) * fxr (rg y)) U r := by
  obtain ⟨m, i, e1, h1, h2, _⟩ := read_fin hx
  obtain ⟨n, j, e2, h3, h4, _⟩ := read_fin hy
  have hr : fmul x y = dbl.nearest (sg x ^^ sg y) (m * n) (i + j) := by
    unfold fmul Format.mul
    rw [e1, e2]
    rfl
  obtain ⟨u, hu, hU⟩ := U_spec
  have h5 := nearest_any (sg x ^^ sg y) (m * n) (i + j) (m * n * 2 ^ (i + j + 1074 + (u : Int)).toNat) u (by clear hU; omega) rfl
  refine ⟨_, hr.trans h5, ?_⟩
  have e : m * n * 2 ^ (i + j + 1074 + (u : Int)).toNat = fxr (rg x) * fxr (rg y) := by
    rw [← h2, ← h4]
    have : (i + j + 1074 + (u : Int)).toNat = (i + 1074).toNat + (j + 1074).toNat := by clear hU h5; omega
    rw [this, Nat.pow_add]
    ac_rfl
  rw [e, hU]
  exact near_rungQ _ _

/-! ### How far -/
theorem Near.le_of {num den r R : Nat} (h : Near num den r) (hR : R ≤ infR) (k : num ≤ fxr R * den) : r ≤ R := (h.2 R hR).2 k
theorem Near.ge_of {num den r R : Nat} (h : Near num den r) (hR : R ≤ infR) (k : fxr R * den ≤ num) : R ≤ r := (h.2 R hR).1 k
/-- Two rungs, next to each other, between which num / den lies. -/
theorem Near.between {num den r : Nat} (h : Near num den r) (hd : 0 < den) (hr : r < infR) : ∃ L, L < infR ∧ fxr L * den ≤ num ∧ num < fxr (L + 1) * den ∧ (r = L ∨ r = L + 1) := by
  -- the greatest L with fxr L * den ≤ num
  have hz : fxr 0 * den ≤ num := by rw [fxr_zero]; omega
  have hbig : num < fxr infR * den := by
    rcases Nat.lt_or_ge num (fxr infR * den) with k | k
    · exact k
    · have := h.ge_of (Nat.le_refl _) k; omega
  have key : ∀ k, k ≤ infR → fxr (infR - k) * den ≤ num → ∃ L, L < infR ∧ fxr L * den ≤ num ∧ num < fxr (L + 1) * den := by
    intro k
    induction k with
    | zero => intro _ k; rw [Nat.sub_zero] at k; omega
    | succ k ih =>
      intro hk hL
      rcases Nat.lt_or_ge num (fxr (infR - k) * den) with h1 | h1
      · refine ⟨infR - (k + 1), by omega, hL, ?_⟩
        rw [show infR - (k + 1) + 1 = infR - k by omega]
        exact h1
      · exact ih (by omega) h1
  obtain ⟨L, hL, h1, h2⟩ := key infR (Nat.le_refl _) (by rw [Nat.sub_self]; exact hz)
  refine ⟨L, hL, h1, h2, ?_⟩
  have h3 := h.ge_of (by omega) h1
  have h4 := h.le_of (R := L + 1) (by omega) (Nat.le_of_lt h2)
  omega
end Go.Lk
end

section
/- PlaceSquares: the plain law of sectors. -/
namespace Go.Lk
open Ieee (Format Datum Toward)
set_option linter.unusedSimpArgs false
set_option linter.unusedVariables false

theorem fxr_big : fxr 4850376798678024192 = 2 ^ 54 * U := by decide +kernel
/-- A whole number below 2^53, as a float. -/
theorem near_fx {n : Int} (h : n.natAbs < 2 ^ 53) : isFin (FloatKind.f64.nearest n) = true ∧ fx (FloatKind.f64.nearest n) = n * (U : Int) ∧ sg (FloatKind.f64.nearest n) = decide (n < 0) := by
  have e : FloatKind.f64.nearest n = dbl.nearest (decide (n < 0)) n.natAbs 0 := rfl
  rw [e, nearest_eq _ _ _ (by omega), U_of]
  obtain ⟨u, hu, hU⟩ := U_spec
  obtain ⟨h1, h2⟩ := rung_small (T := n.natAbs * U) (r := 4850376798678024192) (by rw [fxr_big]; exact Nat.mul_le_mul_right _ (by omega)) (by decide) ⟨n.natAbs, u, by rw [hU], h⟩
  refine ⟨fin_wd h1, ?_, sg_wd (rung_lt _)⟩
  have hs : sgn (decide (n < 0)) n.natAbs = n := by
    unfold sgn
    by_cases h0 : n < 0
    · rw [decide_eq_true h0, if_pos rfl]; omega
    · rw [decide_eq_false h0, if_neg (by decide)]; omega
  rw [fx_wd (rung_lt _), h2, sgn_mul, hs]
theorem rnd_exact {z : Bool} {T : Int} {R : Nat} (hR : R < 2047 * 2 ^ 52) (h : T.natAbs ≤ fxr R) (he : ∃ c j, T.natAbs = c * 2 ^ j ∧ c < 2 ^ 53) :
    isFin (rnd z T) = true ∧ fx (rnd z T) = T ∧ (T ≠ 0 → sg (rnd z T) = decide (T < 0)) := by
  unfold rnd
  split
  · rename_i h0
    subst h0
    exact ⟨fin_wd (by decide), by rw [fx_wd (by decide), fxr_zero, sgn_zero], fun h => absurd rfl h⟩
  · rename_i h0
    obtain ⟨h1, h2⟩ := rung_small h hR he
    refine ⟨fin_wd h1, ?_, fun _ => sg_wd (rung_lt _)⟩
    rw [fx_wd (rung_lt _), h2]
    unfold sgn
    by_cases hT : T < 0
    · rw [decide_eq_true hT, if_pos rfl]; omega
    · rw [decide_eq_false hT, if_neg (by decide)]; omega
theorem sg_fx {x : Nat} (h : fx x ≠ 0) : sg x = decide (fx x < 0) := sgn_neg h
end Go.Lk
end

section
/- Arguments that lie in memory. -/
namespace Go.Lk
open Go.WideShapes Go.ChangeShapes
set_option linter.unusedSimpArgs false
set_option linter.unusedVariables false
/-- A row of cells that is only read. -/
theorem row_arg {W : World} {a : Addr} {vs : List Value} (hs : a.spot = none) (hb : ∃ c el fr, W.heap[a.block]? = some (.cells c el fr)) (hf : ∀ (j : Nat) (v : Value), vs[j]? = some v → ∃ c, W.cell? (a.add j) = some c ∧ VR false [] v c) :
    HR false (old W) [some ⟨a.block, if vs.length = 0 then 0 else a.off, vs.length, 0, 0⟩] [.row vs false none] W := by
  obtain ⟨c, el, ⟨lo, hi⟩, hb⟩ := hb
  have one : ∀ (b : Nat) (o : AObj), [AObj.row vs false none][b]? = some o → b = 0 ∧ o = .row vs false none := by
    intro b o h
    have := lt_of_some h
    have e0 : b = 0 := by simpa using this
    subst e0
    simp at h
    exact ⟨rfl, h.symm⟩
  have hcell : ∀ (j : Nat) (v : Value), vs[j]? = some v → ∃ x, c[a.off + j]? = some x ∧ VR false [] v x := by
    intro j v hj
    obtain ⟨x, hx, hv⟩ := hf j v hj
    refine ⟨x, ?_, hv⟩
    unfold World.cell? at hx
    have hbl : (a.add j).block = a.block := by unfold Addr.add; split <;> rfl
    have hof : (a.add j).off = a.off + j := by
      unfold Addr.add
      split
      · rename_i h; omega
      · rfl
    have hsp : (a.add j).spot = none := by
      unfold Addr.add
      split
      · exact hs
      · rfl
    rw [hbl, hb, hof, hsp] at hx
    simpa using hx
  refine ⟨rfl, fun _ h => h, fun b o h _ => ?_, fun b o e h he => ?_, fun b b' o o' e e' h h' _ _ ho => ?_⟩
  · obtain ⟨rfl, rfl⟩ := one b o h
    exact ⟨_, rfl⟩
  · obtain ⟨rfl, rfl⟩ := one b o h
    simp only [List.getElem?_cons_zero, Option.some.injEq] at he
    subst he
    refine ⟨rfl, rfl, c, el, lo, hi, hb, ?_, ⟨?_, fun i v hi => ?_⟩, fun h => by cases h⟩
    · show (if vs.length = 0 then 0 else a.off) + vs.length + 0 * 0 ≤ c.size
      split
      · omega
      · obtain ⟨x, hx, _⟩ := hcell (vs.length - 1) vs[vs.length - 1] (List.getElem?_eq_getElem (by omega))
        have := (Array.getElem?_eq_some_iff.1 hx).1
        omega
    · simp only [List.length_take, List.length_drop, Array.length_toList]
      split
      · omega
      · obtain ⟨x, hx, _⟩ := hcell (vs.length - 1) vs[vs.length - 1] (List.getElem?_eq_getElem (by omega))
        have := (Array.getElem?_eq_some_iff.1 hx).1
        omega
    · have hlt := lt_of_some hi
      obtain ⟨x, hx, hv⟩ := hcell i v hi
      refine ⟨x, ?_, hv.mono (fun b e h => by simp at h)⟩
      rw [List.getElem?_take, if_pos hlt, List.getElem?_drop]
      have : ¬ vs.length = 0 := by omega
      simp only [this, if_false]
      simpa using hx
  · obtain ⟨rfl, rfl⟩ := one b o h
    cases ho
/-- The slice that holds it. -/
theorem slice_arg {W : World} {a : Addr} {vs : List Value} {z len cap : Nat} (hs : a.spot = none) (hl : len ≤ cap) (hz : 0 < z) (hv : vs.length = cap * z) :
    VR false [some ⟨a.block, if vs.length = 0 then 0 else a.off, vs.length, 0, 0⟩] (.slice (some ⟨0, 0, some z⟩) len cap) (.slice (some a) len cap) := by
  by_cases h0 : cap = 0
  · subst h0
    have : len = 0 := by omega
    subst this
    exact .sempty (e := ⟨a.block, if vs.length = 0 then 0 else a.off, vs.length, 0, 0⟩) rfl a
  · have hn : ¬ vs.length = 0 := by
      rw [hv]
      have := Nat.mul_pos (show 0 < cap by omega) hz
      omega
    have h := VR.slice (ex := false) (μ := [some (⟨a.block, a.off, vs.length, 0, 0⟩ : Ent)]) (b := 0) (o := 0) (sz := z) (len := len) (cap := cap) (cap' := cap) (e := ⟨a.block, a.off, vs.length, 0, 0⟩) rfl (.inl rfl)
    simp only [hn, if_false]
    have ea : a = ⟨a.block, a.off + 0, none⟩ := by cases a; simp at hs ⊢; exact hs
    rw [ea]
    exact h
/-- What a slice argument is. -/
theorem wide_slice {P : Program} {W : World} {r : Reach} {base : Nat} {t e : TypeId} {v : Value} (ht : P.underlying t = some (.slice e)) (h : Value.okWide P W r base t v) :
    v = .slice none 0 0 ∨ ∃ a len cap, v = .slice (some a) len cap ∧ len ≤ cap ∧ a.spot = none ∧ ∃ c el fr, W.heap[a.block]? = some (.cells c el fr) := by
  have h1 : Cell.ok P W r base t v := by
    have h2 : Cell.okWide P W r base t v := by
      unfold Value.okWide at h
      rw [ht] at h
      exact h
    unfold Cell.okWide at h2
    rw [ht] at h2
    cases v <;> exact h2
  unfold Cell.ok at h1
  rw [ht] at h1
  cases v with
  | slice a len cap =>
    cases a with
    | none =>
      cases len with
      | zero => cases cap with
        | zero => exact .inl rfl
        | succ n => exact h1.elim
      | succ n => exact h1.elim
    | some a =>
      obtain ⟨k1, k2, _, k3, row, cells, k4, _⟩ := h1
      refine .inr ⟨a, len, cap, rfl, k1, k3, ?_⟩
      unfold World.shape? at k4
      split at k4
      · rename_i c el fr hh; exact ⟨c, el, fr, hh⟩
      · cases k4
  | _ => exact h1.elim
theorem addr_add (a : Addr) (n m : Nat) : (a.add n).add m = a.add (n + m) := by
  unfold Addr.add
  by_cases hn : n = 0
  · subst hn; simp
  · by_cases hm : m = 0
    · subst hm; simp [hn]
    · have : ¬ n + m = 0 := by omega
      simp [hn, hm, this, Nat.add_assoc]
/-- The cells of a slice's elements. -/
theorem slice_cells {H : Type} {enc : TypeId × Value → H} {P : Program} {W : World} {b2 : Nat} {held : Bool} {t e : TypeId} {m len cap s : Nat} {a : Addr} {x : DataW H × List MemPlace} (ht : P.underlying t = some (.slice e)) (hc : P.cellsOf e = s)
    (h : DataW.trod enc P W b2 (fun _ => true) held m t [.slice (some a) len cap] = some x) (i : Nat) (hi : i < cap) :
    ∃ cs n y, cs.length = s ∧ (∀ j, j < s → W.cell? (a.add (i * s + j)) = cs[j]?) ∧ DataW.trod enc P W b2 (fun _ => true) held n e cs = some y := by
  rcases DataW.trod_slice ht h with ⟨h0, _⟩ | ⟨a', len', cap', elems, rest, n, _, h0, _, _, hl, _, hlen, hel, hsp, _⟩
  · simp at h0
  · simp only [List.cons.injEq, Value.slice.injEq, Option.some.injEq, and_true] at h0
    obtain ⟨rfl, rfl, rfl⟩ := h0
    obtain ⟨hrl, hr⟩ := hsp rfl
    have hb : ∃ y, (W.cells? b2 (a.add (i * P.cellsOf e)) (P.cellsOf e)).bind (DataW.trod enc P W b2 (fun _ => true) held n e) = some y := by
      by_cases h1 : i < len
      · rw [hel i h1]
        exact ⟨_, List.getElem?_eq_getElem (by omega)⟩
      · have := hr (i - len) (by omega)
        rw [show len + (i - len) = i by omega] at this
        rw [this]
        exact ⟨_, List.getElem?_eq_getElem (by omega)⟩
    obtain ⟨y, hy⟩ := hb
    rw [Option.bind_eq_some_iff] at hy
    obtain ⟨cs, h1, h2⟩ := hy
    obtain ⟨_, h3, h4⟩ := World.cells?_some h1
    rw [hc] at h3 h4
    exact ⟨cs, n, y, h3, fun j hj => by rw [← h4 j hj, addr_add], h2⟩
end Go.Lk
end

section
/- Slices of pairs of whole numbers in memory; some slices at once. -/
namespace Go.Lk
open Go.WideShapes Go.ChangeShapes
set_option linter.unusedVariables false
set_option linter.unusedSimpArgs false
theorem trod_int {H : Type} {enc : TypeId × Value → H} {P : Program} {w : World} {base : Nat} {spare : Nat → Bool} {held : Bool} {fuel : Nat} {t : TypeId} {cs : List Value} {x : DataW H × List MemPlace} {k : IntKind} (ht : P.underlying t = some (.int k)) (h : DataW.trod enc P w base spare held fuel t cs = some x) : ∃ b, cs = [.int k b] := by
  cases fuel with
  | zero => simp [DataW.trod] at h
  | succ n =>
    unfold DataW.trod at h
    rw [ht] at h
    split at h <;> simp_all
def cellI (v : Option Value) : Int := match v with | some (.int .i64 b) => b | _ => 0
theorem pairs_arg {H : Type} {enc : TypeId × Value → H} {P : Program} {W : World} {r : Reach} {base b2 : Nat} {held : Bool} {t e u : TypeId} {v : Value} {d : DataW H} {ps : List MemPlace} (ht : P.underlying t = some (.slice e)) (he : P.underlying e = some (.array 2 u)) (hc : P.cellsOf e = 2)
    (hu : P.underlying u = some (.int .i64)) (cu : P.cellsOf u = 1)
    (hok : Value.okWide P W r base t v) (h : ∃ m, DataW.trod enc P W b2 (fun _ => true) held m t v.cells.toList = some (d, ps)) :
    v = .slice none 0 0 ∨ ∃ (px py : Nat → Int) (len cap : Nat) (μ : List (Option Ent)), len ≤ cap ∧ HR false (old W) μ [.row (rowOf (fun i => [.int .i64 (px i), .int .i64 (py i)]) cap) false none] W ∧ VR false μ (.slice (some ⟨0, 0, some 2⟩) len cap) v := by
  rcases wide_slice ht hok with rfl | ⟨a, len, cap, rfl, hl, hs, hb⟩
  · exact .inl rfl
  · right
    obtain ⟨m, h⟩ := h
    have hcell := slice_cells (s := 2) ht hc h
    let px : Nat → Int := fun i => cellI (W.cell? (a.add (i * 2 + 0)))
    let py : Nat → Int := fun i => cellI (W.cell? (a.add (i * 2 + 1)))
    have hlen : (rowOf (fun i => [Value.int .i64 (px i), .int .i64 (py i)]) cap).length = cap * 2 := rowOf_len (f := fun i => [Value.int .i64 (px i), .int .i64 (py i)]) (s := 2) (fun _ => rfl) cap
    refine ⟨px, py, len, cap, _, hl, row_arg hs hb (fun j v hj => ?_), slice_arg (W := W) hs hl (by decide) hlen⟩
    have hlt := lt_of_some hj
    rw [hlen] at hlt
    have hk : j / 2 < cap := by omega
    obtain ⟨cs, n, y, hcs, hcell, htr⟩ := hcell (j / 2) hk
    obtain ⟨y0, y1, n', h0, h1⟩ : ∃ y0 y1 n', DataW.trod enc P W b2 (fun _ => true) held n' u ((cs.drop 0).take 1) = some y0 ∧ DataW.trod enc P W b2 (fun _ => true) held n' u ((cs.drop 1).take 1) = some y1 := by
      cases n with
      | zero => simp [DataW.trod] at htr
      | succ n =>
        unfold DataW.trod at htr
        rw [he] at htr
        simp only at htr
        split at htr
        · rw [show List.range 2 = [0, 1] from rfl, List.mapM_cons, List.mapM_cons, cu] at htr
          cases g0 : DataW.trod enc P W b2 (fun _ => true) held n u ((cs.drop (0 * 1)).take 1) with
          | none => rw [g0] at htr; simp at htr
          | some y0 =>
            cases g1 : DataW.trod enc P W b2 (fun _ => true) held n u ((cs.drop (1 * 1)).take 1) with
            | none => rw [g0, g1] at htr; simp at htr
            | some y1 => exact ⟨y0, y1, n, g0, g1⟩
        · cases htr
    obtain ⟨x0, e0⟩ := trod_int hu h0
    obtain ⟨x1, e1⟩ := trod_int hu h1
    match cs, hcs, e0, e1, hcell with
    | [c0, c1], _, e0, e1, hcell =>
      simp only [List.drop_zero, List.take_succ_cons, List.take_zero, List.cons.injEq, and_true, List.drop_succ_cons] at e0 e1
      subst e0 e1
      have g0 : W.cell? (a.add (j / 2 * 2 + 0)) = some (.int .i64 x0) := hcell 0 (by decide)
      have g1 : W.cell? (a.add (j / 2 * 2 + 1)) = some (.int .i64 x1) := hcell 1 (by decide)
      have hrow := rowOf_at (f := fun i => [Value.int .i64 (px i), .int .i64 (py i)]) (s := 2) (fun _ => rfl) (k := j / 2) hk
      have h2 := congrArg (fun l => l[j % 2]?) hrow
      simp only [List.getElem?_take, List.getElem?_drop, show j % 2 < 2 by omega, if_true] at h2
      rw [show j / 2 * 2 + j % 2 = j by omega, hj] at h2
      rcases Nat.mod_two_eq_zero_or_one j with hm | hm
      · rw [hm] at h2
        simp only [List.getElem?_cons_zero, Option.some.injEq] at h2
        have ep : px (j / 2) = x0 := by show cellI (W.cell? (a.add (j / 2 * 2 + 0))) = _; rw [g0]; rfl
        rw [show j / 2 * 2 + 0 = j by omega] at g0
        refine ⟨_, g0, ?_⟩
        rw [h2, ep]
        exact .int _ _
      · rw [hm] at h2
        simp only [List.getElem?_cons_succ, List.getElem?_cons_zero, Option.some.injEq] at h2
        have ep : py (j / 2) = x1 := by show cellI (W.cell? (a.add (j / 2 * 2 + 1))) = _; rw [g1]; rfl
        rw [show j / 2 * 2 + 1 = j by omega] at g1
        refine ⟨_, g1, ?_⟩
        rw [h2, ep]
        exact .int _ _
/-- Heaps of rows that are only read, side by side. -/
def Lent (σ : AHeap) : Prop := ∀ (b : Nat) (o : AObj), σ[b]? = some o → o = .dead ∨ ∃ vs opn, o = .row vs false opn ∧ vs.all plain = true
theorem Lent.one {vs : List Value} {opn : Option Nat} (h : vs.all plain = true) : Lent [.row vs false opn] := by
  intro b o hb
  have : b = 0 := by have := lt_of_some hb; simpa using this
  subst this
  simp at hb
  exact .inr ⟨vs, opn, hb.symm, h⟩
theorem Lent.app {σ τ : AHeap} (h : Lent σ) (h' : Lent τ) : Lent (σ ++ τ) := by
  intro b o hb
  rcases Nat.lt_or_ge b σ.length with hl | hl
  · rw [List.getElem?_append_left hl] at hb; exact h b o hb
  · rw [List.getElem?_append_right hl] at hb; exact h' _ o hb
theorem HR.join {ex : Bool} {B : Nat → Prop} {μ ν : List (Option Ent)} {σ τ : AHeap} {w : World} (h : HR ex B μ σ w) (h' : HR ex B ν τ w) (hσ : Lent σ) (hτ : Lent τ) : HR ex B (μ ++ ν) (σ ++ τ) w := by
  have hl := h.len
  have get : ∀ (b : Nat) (o : AObj), (σ ++ τ)[b]? = some o → (b < σ.length ∧ σ[b]? = some o ∧ (μ ++ ν)[b]? = μ[b]?) ∨ (σ.length ≤ b ∧ τ[b - σ.length]? = some o ∧ (μ ++ ν)[b]? = ν[b - σ.length]?) := by
    intro b o hb
    rcases Nat.lt_or_ge b σ.length with h1 | h1
    · left
      rw [List.getElem?_append_left h1] at hb
      exact ⟨h1, hb, List.getElem?_append_left (by omega)⟩
    · right
      rw [List.getElem?_append_right h1] at hb
      exact ⟨h1, hb, by rw [List.getElem?_append_right (by omega), hl]⟩
  refine ⟨by simp [hl, h'.len], h.hB, fun b o hb hlv => ?_, fun b o e hb he => ?_, fun b b' o o' e e' hb hb' he he' ho hlv hc => ?_⟩
  · rcases get b o hb with ⟨_, g1, g2⟩ | ⟨_, g1, g2⟩
    · rw [g2]; exact h.has b o g1 hlv
    · rw [g2]; exact h'.has _ o g1 hlv
  · rcases get b o hb with ⟨_, g1, g2⟩ | ⟨_, g1, g2⟩
    · rw [g2] at he
      rcases hσ b o g1 with rfl | ⟨vs, opn, rfl, hp⟩
      · trivial
      obtain ⟨k0, k1, c, el, lo, hi, k2, k3, k4, k5⟩ := h.obj b _ e g1 he
      exact ⟨k0, k1, c, el, lo, hi, k2, k3, k4.plain_to hp, k5⟩
    · rw [g2] at he
      rcases hτ _ o g1 with rfl | ⟨vs, opn, rfl, hp⟩
      · trivial
      obtain ⟨k0, k1, c, el, lo, hi, k2, k3, k4, k5⟩ := h'.obj _ _ e g1 he
      exact ⟨k0, k1, c, el, lo, hi, k2, k3, k4.plain_to hp, k5⟩
  · rcases hσ.app hτ b o hb with rfl | ⟨vs, opn, rfl, _⟩ <;> cases ho
theorem VR.slice_left {ex : Bool} {μ ν : List (Option Ent)} {x c : Value} (h : VR ex μ x c) : VR ex (μ ++ ν) x c :=
  h.mono fun b e hb => by
    have hlt := lt_of_some hb
    rw [List.getElem?_append_left hlt]; exact hb
theorem VR.slice_right {ex : Bool} {μ ν : List (Option Ent)} {o z len cap : Nat} {c : Value} (h : VR ex ν (.slice (some ⟨0, o, some z⟩) len cap) c) : VR ex (μ ++ ν) (.slice (some ⟨μ.length, o, some z⟩) len cap) c := by
  have g : ∀ e, ν[0]? = some (some e) → (μ ++ ν)[μ.length]? = some (some e) := fun e he => by
    rw [List.getElem?_append_right (Nat.le_refl _), Nat.sub_self]; exact he
  cases h with
  | slice h hc => exact .slice (g _ h) hc
  | sempty h a => exact .sempty (g _ h) a
theorem Lent.dead : Lent [.dead] := by
  intro b o hb
  have : b = 0 := by have := lt_of_some hb; simpa using this
  subst this
  simp at hb
  exact .inl hb.symm
theorem HR.nothing (ex : Bool) (w : World) : HR ex (old w) [Option.none] [.dead] w := by
  have one : ∀ (b : Nat) (o : AObj), [AObj.dead][b]? = some o → b = 0 ∧ o = .dead := by
    intro b o h
    have := lt_of_some h
    have e0 : b = 0 := by simpa using this
    subst e0
    simp at h
    exact ⟨rfl, h.symm⟩
  refine ⟨rfl, fun _ h => h, fun b o hb hlv => ?_, fun b o e hb he => ?_, fun b b' o o' e e' hb hb' he he' ho hlv hc => ?_⟩
  · obtain ⟨rfl, rfl⟩ := one b o hb; cases hlv
  · obtain ⟨rfl, rfl⟩ := one b o hb; cases he
  · obtain ⟨rfl, rfl⟩ := one b o hb; cases ho
/-- An argument that is a slice of pairs, as one block. -/
theorem pairs_pkg {H : Type} {enc : TypeId × Value → H} {P : Program} {W : World} {r : Reach} {base b2 : Nat} {held : Bool} {t e u : TypeId} {v : Value} {d : DataW H} {ps : List MemPlace} (ht : P.underlying t = some (.slice e)) (he : P.underlying e = some (.array 2 u)) (hc : P.cellsOf e = 2)
    (hu : P.underlying u = some (.int .i64)) (cu : P.cellsOf u = 1)
    (hok : Value.okWide P W r base t v) (h : ∃ m, DataW.trod enc P W b2 (fun _ => true) held m t v.cells.toList = some (d, ps)) :
    ∃ (px py : Nat → Int) (len cap : Nat) (m : Option Ent) (o : AObj), HR false (old W) [m] [o] W ∧ Lent [o] ∧
      ((v = .slice none 0 0 ∧ len = 0 ∧ cap = 0) ∨ (len ≤ cap ∧ o = .row (rowOf (fun i => [.int .i64 (px i), .int .i64 (py i)]) cap) false none ∧ VR false [m] (.slice (some ⟨0, 0, some 2⟩) len cap) v)) := by
  rcases pairs_arg ht he hc hu cu hok h with rfl | ⟨px, py, len, cap, μ, hl, hr, hv⟩
  · exact ⟨fun _ => 0, fun _ => 0, 0, 0, Option.none, .dead, HR.nothing _ _, Lent.dead, .inl ⟨rfl, rfl, rfl⟩⟩
  · have hlen := hr.len
    obtain ⟨m, rfl⟩ : ∃ m, μ = [m] := by
      match μ, hlen with
      | [m], _ => exact ⟨m, rfl⟩
    exact ⟨px, py, len, cap, m, _, hr, Lent.one (rowOf_all (fun _ => rfl) cap), .inr ⟨hl, rfl, hv⟩⟩
end Go.Lk
end

section
/- Arguments: structs of floats. -/
namespace Go.Lk
set_option linter.unusedSimpArgs false
set_option linter.unusedVariables false
section
variable {P : Program} {W : World} {r : Reach} {base : Nat} {t u : TypeId} {v : Value}
end
end Go.Lk
end
