/- Loops: their bodies, their rounds; rows as functions. -/
import Derived.Test.YtmomainjlncogaaLkFR
import Derived.Test.YtmomainjlncogaaLkPA
namespace Go.Lk
set_option linter.unusedSimpArgs false
set_option linter.unusedVariables false

def loopsOf : Code → List Code
  | .loop b => b :: loopsOf b
  | .seq a b => loopsOf a ++ loopsOf b
  | .cond _ x y => loopsOf x ++ loopsOf y
  | .block _ b | .scope b => loopsOf b
  | _ => []
/-- The body of loop k of a function (in the text's order). -/
def loopOf (fn : Func) (k : Nat) : Code := match fn.body with | some b => (loopsOf b).getD k .skip | none => .skip
def regsOf : Code → List (Nat × Code)
  | .region i ops d => [(i, .region i ops d)]
  | .seq a b => regsOf a ++ regsOf b
  | .cond _ x y => regsOf x ++ regsOf y
  | .block _ b | .loop b | .scope b => regsOf b
  | _ => []
def regOf (fn : Func) (i : Nat) : Code := match fn.body with | some b => (look (regsOf b) i).getD .skip | none => .skip
def regOps : Code → Array Oper
  | .region _ ops _ => ops
  | _ => #[]

/-! ### Rows as functions -/
def rowOf (f : Nat → List Value) (n : Nat) : List Value := (List.range n).flatMap f
theorem rowOf_len {f : Nat → List Value} {s : Nat} (hf : ∀ i, (f i).length = s) : ∀ n, (rowOf f n).length = n * s := by
  intro n
  unfold rowOf
  induction n with
  | zero => simp
  | succ n ih => rw [List.range_succ, List.flatMap_append, List.length_append, ih]; simp [hf, Nat.succ_mul]
theorem rowOf_succ (f : Nat → List Value) (n : Nat) : rowOf f (n + 1) = rowOf f n ++ f n := by
  unfold rowOf; rw [List.range_succ, List.flatMap_append]; simp
theorem rowOf_at {f : Nat → List Value} {s : Nat} (hf : ∀ i, (f i).length = s) {k : Nat} : ∀ {n : Nat}, k < n → ((rowOf f n).drop (k * s)).take s = f k := by
  intro n
  induction n with
  | zero => intro h; omega
  | succ n ih =>
    intro h
    rw [rowOf_succ]
    have hl := rowOf_len hf n
    rcases Nat.lt_or_eq_of_le (Nat.le_of_lt_succ h) with h' | h'
    · have h1 : k * s + s ≤ n * s := by
        have := Nat.mul_le_mul_right s (show k + 1 ≤ n from h')
        rw [Nat.succ_mul] at this; exact this
      rw [List.drop_append_of_le_length (by omega), List.take_append_of_le_length (by rw [List.length_drop]; omega)]
      exact ih h'
    · subst h'
      rw [List.drop_append, hl, Nat.sub_self, List.drop_of_length_le (by omega)]
      simp only [List.drop_zero, List.nil_append]
      exact List.take_of_length_le (by rw [hf]; exact Nat.le_refl _)

/-- A sum of integers that stays in bounds. -/
def wF (k : IntKind) (e : Int) (σ : AHeap) : Option (Value × AHeap) := some (.int k (k.wrap e), σ)
theorem i64_wrap {e : Int} (h : -9223372036854775808 ≤ e ∧ e ≤ 9223372036854775807) : IntKind.i64.wrap e = e := by
  unfold IntKind.wrap
  simp [IntKind.bits, IntKind.signed]
  omega
theorem wF_ok {e e' : Int} (σ : AHeap) (h : -9223372036854775808 ≤ e ∧ e ≤ 9223372036854775807) (he : e = e') : wF .i64 e σ = some (.int .i64 e', σ) := by
  unfold wF; rw [i64_wrap h, he]
/-- An element's address. -/
def ixF (V : Value) (σ : AHeap) (n : Int) (len : Nat) : Option (Value × AHeap) :=
  match (if 0 ≤ n ∧ n < (len : Int) then some V else none : Option Value) with
  | some v => some (v, σ)
  | none => none
theorem ixF_ok (V : Value) (σ : AHeap) {n : Int} {len : Nat} (h : 0 ≤ n ∧ n < (len : Int)) : ixF V σ n len = some (V, σ) := by unfold ixF; rw [if_pos h]
/-- A load. -/
def ldF (o : Option Value) (σ : AHeap) : Option (Value × AHeap) :=
  match o with
  | some v => some (v, σ)
  | none => none
theorem ldF_ok {o : Option Value} {v : Value} {σ : AHeap} (h : o = some v) : ldF o σ = some (v, σ) := by rw [h]; rfl
theorem load_agg {P : Program} {σ : AHeap} {t : TypeId} {b s off k n : Nat} {f : Nat → List Value} {rw' : Bool} {opn : Option Nat} (hσ : σ[b]? = some (.row (rowOf f n) rw' opn)) (hd : (P.underlying t).map isAggD = some true)
    (hs : tSize P t = some s) (hf : ∀ i, (f i).length = s) (ho : off = k * s) (hk : k < n) : aLoad P σ t (.pointer (some ⟨b, off, none⟩)) = some (.agg (f k).toArray) := by
  cases hu : P.underlying t with
  | none => rw [hu] at hd; cases hd
  | some d =>
  rw [hu] at hd
  have hd : isAggD d = true := by simpa using hd
  unfold aLoad
  simp only [hσ, hu, hd, hs, cond_true]
  have hl := rowOf_len hf n
  have h1 : k * s + s ≤ n * s := by
    have := Nat.mul_le_mul_right s (show k + 1 ≤ n from hk)
    rw [Nat.succ_mul] at this; exact this
  rw [if_pos (by omega), ho, rowOf_at hf hk]
theorem load_one {P : Program} {σ : AHeap} {t : TypeId} {b off k n : Nat} {g : Nat → Value} {rw' : Bool} {opn : Option Nat} (hσ : σ[b]? = some (.row (rowOf (fun i => [g i]) n) rw' opn)) (hd : (P.underlying t).map isAggD = some false)
    (ho : off = k) (hk : k < n) : aLoad P σ t (.pointer (some ⟨b, off, none⟩)) = some (g k) := by
  cases hu : P.underlying t with
  | none => rw [hu] at hd; cases hd
  | some d =>
  rw [hu] at hd
  have hd : isAggD d = false := by simpa using hd
  unfold aLoad
  simp only [hσ, hu, hd, cond_false]
  have h := rowOf_at (f := fun i => [g i]) (s := 1) (fun i => rfl) (k := k) hk
  rw [Nat.mul_one] at h
  have h2 := congrArg (fun l => l[0]?) h
  simp only [List.getElem?_take, List.getElem?_drop] at h2
  rw [ho]
  simpa using h2

/-! ### What is kept of a round -/
/-- No names from m on. -/
def named0 (m : Nat) : Value → Bool
  | .pointer (some ⟨b, _, _⟩) => Nat.blt b m
  | .slice (some ⟨b, _, _⟩) _ _ => Nat.blt b m
  | v => flat0 v
def closedV (m : Nat) : Value → Bool
  | .agg cs => cs.toList.all (named0 m)
  | .tuple cs => cs.toList.all (named0 m)
  | v => named0 m v
theorem named0_inert {m : Nat} {v : Value} {r : Nat → Nat} (hr : ∀ b, b < m → r b = b) (h : named0 m v = true) (d : Nat) : renV r d v = v := by
  unfold named0 at h
  split at h
  · rename_i b o s
    have := hr b (by simpa [Nat.blt_eq] using h)
    cases d <;> simp only [renV, this]
  · rename_i b o s l c
    have := hr b (by simpa [Nat.blt_eq] using h)
    cases d <;> simp only [renV, this]
  · exact flat0_inert h d r
theorem namedL_inert {m : Nat} {r : Nat → Nat} (hr : ∀ b, b < m → r b = b) (d : Nat) : ∀ {cs : List Value}, cs.all (named0 m) = true → cs.map (renV r d) = cs
  | [], _ => rfl
  | c :: cs, h => by
    rw [List.all_cons, Bool.and_eq_true] at h
    rw [List.map_cons, named0_inert hr h.1, namedL_inert hr d h.2]
theorem closedV_inert {m : Nat} {v : Value} {r : Nat → Nat} (hr : ∀ b, b < m → r b = b) (h : closedV m v = true) : renV r 3 v = v := by
  unfold closedV at h
  split at h
  · simp only [renV]; rw [namedL_inert hr _ h]
  · simp only [renV]; rw [namedL_inert hr _ h]
  · exact named0_inert hr h 3
def closedO (m : Nat) : AObj → Bool
  | .row vs _ _ => vs.all (named0 m)
  | _ => true
def maskF : List Bool → List Value → List Value
  | b :: bs, v :: vs => (bif b then v else undef) :: maskF bs vs
  | _, vs => vs.map fun _ => undef
def closedF (m : Nat) : List Bool → List Value → Bool
  | b :: bs, v :: vs => (!b || closedV m v) && closedF m bs vs
  | _, _ => true
theorem maskF_emb {m : Nat} {r : Nat → Nat} (hr : ∀ b, b < m → r b = b) : ∀ (bs : List Bool) (vs : List Value), closedF m bs vs = true → FrEmb r (maskF bs vs) vs
  | b :: bs, v :: vs, h => by
    unfold closedF at h
    rw [Bool.and_eq_true] at h
    refine ⟨?_, maskF_emb hr bs vs h.2⟩
    cases b
    · left; rfl
    · right
      have h1 : closedV m v = true := by simpa using h.1
      exact (closedV_inert hr h1).symm
  | [], v :: vs, h => ⟨.inl rfl, by
    have : ∀ vs : List Value, FrEmb r (vs.map fun _ => undef) vs := by
      intro vs
      induction vs with
      | nil => trivial
      | cons v vs ih => exact ⟨.inl rfl, ih⟩
    exact this vs⟩
  | [], [], _ => trivial
  | _ :: _, [], _ => trivial

/-- The end of a stretch, its blocks renamed; the first n0 keep their names. -/
theorem Sim.embN {C : Cfg} {c : Code} {fr fr1 fr' : List Value} {σ0 σ σ1 σ' : AHeap} {e : Exit} {r : Nat → Nat} {n0 : Nat} (h : Sim C n0 c fr σ e fr1 σ1) (hs : Stood C.ex σ0) (hn : n0 ≤ σ.length) (hn' : n0 ≤ σ'.length) (hfix : ∀ b, b < n0 → r b = b) (he : Emb σ0 r σ' σ1) (hf : FrEmb r fr' fr1) :
    Sim C n0 c fr σ e fr' σ' := by
  intro B μ tmps defers w Q hf0 hr hQ
  refine h B μ tmps defers w Q hf0 hr ?_
  intro μ1 tmps' w' q1 q2 q3 q4
  have hback := he.back q2
  refine hQ (renM μ1 r σ'.length) tmps' w' ⟨by rw [hf.len]; exact q1.1, fun i a ha => ?_⟩ (he.heap q2 hs) (fun b hb => ?_) q4
  · have hlt := lt_of_some ha
    rcases hf.get i a ha with hu | hb
    · obtain ⟨c, hc⟩ : ∃ c, tmps'[i]? = some c := ⟨_, Array.getElem?_eq_getElem (by rw [← q1.1, ← hf.len]; exact hlt)⟩
      exact ⟨c, hc, .inl hu⟩
    · obtain ⟨c, hc, hv⟩ := q1.2 i _ hb
      refine ⟨c, hc, ?_⟩
      rcases hv with hu | hv
      · exact .inl (isU_ren hu)
      · exact .inr (VR.ren hback 3 _ _ hv)
  · have hlt : b < μ.length := by rw [hr.len]; omega
    rw [renM_get (by omega), hfix b hb, q3 b hb, List.getElem?_eq_getElem hlt]
    rfl

/-- A frame that is known better. -/
theorem Sim.enter {C : Cfg} {c : Code} {fr fr0 fr1 : List Value} {σ σ1 : AHeap} {e : Exit} {n0 : Nat} (h : Sim C n0 c fr σ e fr1 σ1) (mask : List Bool) (hm : maskF mask fr0 = fr) : Sim C n0 c fr0 σ e fr1 σ1 := by
  subst hm
  intro B μ tmps defers w Q hf0 hr hQ
  refine h B μ tmps defers w Q ?_ hr hQ
  have hl : ∀ (bs : List Bool) (vs : List Value), (maskF bs vs).length = vs.length := by
    intro bs
    induction bs with
    | nil => intro vs; cases vs <;> simp [maskF]
    | cons b bs ih => intro vs; cases vs with
      | nil => simp [maskF]
      | cons v vs => simp [maskF, ih]
  have hg : ∀ (bs : List Bool) (vs : List Value) (i : Nat) (a : Value), (maskF bs vs)[i]? = some a → isU a = true ∨ vs[i]? = some a := by
    intro bs
    induction bs with
    | nil =>
      intro vs i a h
      left
      have : maskF [] vs = vs.map fun _ => undef := by cases vs <;> rfl
      rw [this, List.getElem?_map] at h
      cases hv : vs[i]? with
      | none => rw [hv] at h; cases h
      | some v => rw [hv] at h; cases h; rfl
    | cons b bs ih =>
      intro vs i a h
      cases vs with
      | nil => simp [maskF] at h
      | cons v vs =>
        cases i with
        | zero =>
          simp only [maskF, List.getElem?_cons_zero, Option.some.injEq] at h
          cases b
          · left; rw [← h]; rfl
          · right; rw [← h]; rfl
        | succ i =>
          simp only [maskF, List.getElem?_cons_succ] at h ⊢
          exact ih vs i a h
  refine ⟨by rw [hl]; exact hf0.1, fun i a ha => ?_⟩
  rcases hg mask fr0 i a ha with hu | hb
  · have hlt := lt_of_some ha
    rw [hl] at hlt
    exact ⟨_, Array.getElem?_eq_getElem (by rw [← hf0.1]; exact hlt), .inl hu⟩
  · exact hf0.2 i a hb

/-- The end of a stretch: the scratch slots and the blocks from m on are given up. -/
theorem Sim.keep {C : Cfg} {c : Code} {fr fr1 : List Value} {σ0 σ σ1 : AHeap} {e : Exit} {n0 : Nat} (h : Sim C n0 c fr σ e fr1 σ1) (hs : Stood C.ex σ0) (hn : n0 ≤ σ.length) (m : Nat) (mask : List Bool)
    (hnm : n0 ≤ m) (h0 : σ0.length ≤ m) (hm : m ≤ σ1.length) (hfix : σ1.take σ0.length = σ0) (hc : ((σ1.take m).drop σ0.length).all (closedO m) = true) (hf : closedF m mask fr1 = true) : Sim C n0 c fr σ e (maskF mask fr1) (σ1.take m) := by
  have hr : ∀ b, b < m → (fun b => if b < m then b else b + σ1.length) b = b := fun b hb => by simp [hb]
  refine h.embN (r := fun b => if b < m then b else b + σ1.length) hs hn (by simp; omega) (fun b hb => hr b (by omega)) ⟨by simp; omega, fun b hb => ?_, fun b hb => hr b (by omega), fun b b' o o' hb hb' _ _ e => ?_, fun b o hb hl => ?_⟩ (maskF_emb hr mask fr1 hf)
  · simp only [List.length_take] at hb
    have : ¬ b < m := by omega
    simp only [this, if_false]; omega
  · have h1 := lt_of_some hb
    have h2 := lt_of_some hb'
    simp only [List.length_take] at h1 h2
    have g1 : b < m := by omega
    have g2 : b' < m := by omega
    simpa [g1, g2] using e
  · have h1 := lt_of_some hb
    simp only [List.length_take] at h1
    have hb1 : σ1[b]? = some o := by
      rw [List.getElem?_take] at hb
      split at hb
      · exact hb
      · cases hb
    rcases Nat.lt_or_ge b σ0.length with h' | h'
    · left
      refine ⟨h', ?_, hb1⟩
      rw [← hfix, List.getElem?_take, if_pos h']
      exact hb1
    · right
      have hbm : b < m := by omega
      simp only [hbm, if_true]
      rw [hb1]
      congr 1
      have hmem : o ∈ (σ1.take m).drop σ0.length := by
        have : ((σ1.take m).drop σ0.length)[b - σ0.length]? = some o := by
          rw [List.getElem?_drop, show σ0.length + (b - σ0.length) = b by omega]; exact hb
        exact List.mem_of_getElem? this
      have := List.all_eq_true.1 hc o hmem
      cases o with
      | row vs rw' opn => simp only [closedO] at this; simp only [renO]; rw [namedL_inert hr 3 this]
      | dead => rfl
      | iter s p => rfl
theorem Sim.keep' {C : Cfg} {c : Code} {fr fr1 fr' : List Value} {σ0 σ σ1 σ' : AHeap} {e : Exit} {L : Nat} (n0 : Nat) (h : Sim C L c fr σ e fr1 σ1) (hL : L = σ.length) (hs : Stood C.ex σ0) (m : Nat) (mask : List Bool)
    (hn : Nat.ble n0 σ.length = true) (hnm : Nat.ble n0 m = true) (h0 : Nat.ble σ0.length m = true) (hm : Nat.ble m σ1.length = true) (hfix : σ1.take σ0.length = σ0) (hc : ((σ1.take m).drop σ0.length).all (closedO m) = true) (hf : closedF m mask fr1 = true)
    (e1 : maskF mask fr1 = fr') (e2 : σ1.take m = σ') : Sim C n0 c fr σ e fr' σ' := by
  subst e1 e2
  have hn' := Nat.le_of_ble_eq_true hn
  exact Sim.keep (h.le (by omega)) hs hn' m mask (Nat.le_of_ble_eq_true hnm) (Nat.le_of_ble_eq_true h0) (Nat.le_of_ble_eq_true hm) hfix hc hf

theorem CallR.of_DOXs {C : Cfg} (hC : C.Ok) {X : List Nat} {f : FuncId} {fn : Func} {args : List Value} {σ σ1 : AHeap} {v : Value} {n : Nat} {orc : Orc} {ps : List Prop}
    (hf : C.P.funcs[f]? = some fn) (hok : fnOkX C X fn = true) (h : DOfnX C X n fn args σ orc = some (ps, v, σ1)) (hp : Stood C.ex σ → All ps) : CallR C.P C.ex f args σ v σ1 :=
  fun B μ w cargs hr hargs => CallR.of_DOX hC hf hok h (hp ⟨B, μ, w, hr⟩) B μ w cargs hr hargs
theorem Sim.cast {C : Cfg} {c : Code} {fr fr' fr1 fr1' : List Value} {σ σ' σ1 σ1' : AHeap} {e : Exit} {n0 : Nat} (h : Sim C n0 c fr σ e fr1 σ1) (e1 : fr = fr') (e2 : σ = σ') (e3 : fr1 = fr1') (e4 : σ1 = σ1') : Sim C n0 c fr' σ' e fr1' σ1' := by
  subst e1 e2 e3 e4; exact h

/-- A round of a loop: what is asked, how it ends, what is kept. -/
def roundR (C : Cfg) (X : List Nat) (n : Nat) (body : Code) (orc : Orc) (s0 m : Nat) (mask : List Bool) (fr : List Value) (σ : AHeap) : Option (List Prop × Exit × List Value × AHeap) :=
  match DO C X n body 0 orc fr σ with
  | some (ps, e, _, _, fr1, σ1) =>
    bif Nat.ble m σ.length && (Nat.ble m σ1.length && (closedF m mask fr1 && ((σ1.take m).drop s0).all (closedO m))) then some (ps, e, maskF mask fr1, σ1.take m) else none
  | none => none
theorem Sim.of_round {C : Cfg} (hC : C.Ok) {X : List Nat} {n : Nat} {body : Code} {orc : Orc} {m : Nat} {mask : List Bool} {fr fr' : List Value} {σ σ' σ0 : AHeap} {ps : List Prop} {e : Exit} (hok : codeOkX C X body = true)
    (h : roundR C X n body orc σ0.length m mask fr σ = some (ps, e, fr', σ')) (hp : All ps) (hst : Stood C.ex σ0) (h0 : Nat.ble σ0.length m = true) (hfix : σ'.take σ0.length = σ0) : Sim C m body fr σ e fr' σ' := by
  unfold roundR at h
  split at h
  · rename_i ps1 e1 t1 o1 fr1 σ1 hd
    cases hb : (Nat.ble m σ.length && (Nat.ble m σ1.length && (closedF m mask fr1 && ((σ1.take m).drop σ0.length).all (closedO m))))
    · rw [hb] at h; cases h
    · rw [hb] at h
      simp only [cond_true, Option.some.injEq, Prod.mk.injEq] at h
      obtain ⟨rfl, rfl, rfl, rfl⟩ := h
      simp only [Bool.and_eq_true] at hb
      obtain ⟨b1, b2, b3, b4⟩ := hb
      have h0' := Nat.le_of_ble_eq_true h0
      have b1' := Nat.le_of_ble_eq_true b1
      refine Sim.keep ((DO_sound hC X n _ _ _ _ _ hok hd hp).1.le b1') hst b1' m mask (Nat.le_refl _) h0' (Nat.le_of_ble_eq_true b2) ?_ b4 b3
      rw [List.take_take, Nat.min_eq_left h0'] at hfix
      exact hfix
  · cases h
end Go.Lk
