import Derived.Test.YtmomainjlncogaaLkQQ
import Derived.Test.YtmomainjlncogaaLkPA
section
/- What a function does in a small heap it does in a greater one. -/
namespace Go.Lk
set_option linter.unusedSimpArgs false
set_option linter.unusedVariables false

/-- The small heap's rows are rows of the great one; they are only read. -/
structure Reads (σ0 : AHeap) (r : Nat → Nat) (σ : AHeap) : Prop where
  row : ∀ b o, σ0[b]? = some o → ∃ vs opn rw, o = .row vs false opn ∧ σ[r b]? = some (.row vs rw opn) ∧ vs.all plain = true
  out : ∀ b, σ0.length ≤ b → σ.length ≤ r b

theorem VRs.plain_to {ex : Bool} {μ μ' : List (Option Ent)} {vs cs : List Value} (hp : vs.all plain = true) (h : VRs ex μ vs cs) : VRs ex μ' vs cs := h.plain_ren hp

theorem Reads.back {ex : Bool} {B : Nat → Prop} {μ : List (Option Ent)} {σ0 σ : AHeap} {w : World} {r : Nat → Nat} (h : HR ex B μ σ w) (hs : Reads σ0 r σ) : ∀ b e, μ[r b]? = some (some e) → (renM μ r σ0.length)[b]? = some (some e) := by
  intro b e hb
  refine renM_back ?_ hb
  rcases Nat.lt_or_ge b σ0.length with h' | h'
  · exact h'
  · have := hs.out b h'
    have := lt_of_some hb
    have := h.len
    omega
theorem Reads.heap {ex : Bool} {B : Nat → Prop} {μ : List (Option Ent)} {σ0 σ : AHeap} {w : World} {r : Nat → Nat} (h : HR ex B μ σ w) (hs : Reads σ0 r σ) : HR ex (old w) (renM μ r σ0.length) σ0 w := by
  refine ⟨by simp [renM], fun _ hk => hk, fun b o hb hl => ?_, fun b o e hb he => ?_, fun b b' o o' e e' hb hb' he he' ho hl hc => ?_⟩
  · obtain ⟨vs, opn, rw', rfl, h2, h3⟩ := hs.row b o hb
    obtain ⟨e, he⟩ := h.has _ _ h2 rfl
    exact ⟨e, hs.back h b e he⟩
  · obtain ⟨vs, opn, rw', rfl, h2, h3⟩ := hs.row b o hb
    obtain ⟨_, hm⟩ := renM_some he
    obtain ⟨g0, g1, c, el, lo, hi, g2, g3, g4, g5⟩ := h.obj _ _ _ h2 hm
    exact ⟨g0, g1, c, el, lo, hi, g2, g3, g4.plain_to h3, fun h => by cases h⟩
  · obtain ⟨vs, opn, rw', rfl, h2, h3⟩ := hs.row b o hb
    cases ho

theorem VRs.ren' {ex : Bool} {μ1 μ' : List (Option Ent)} {r : Nat → Nat} (hr : ∀ b e, μ1[r b]? = some (some e) → μ'[b]? = some (some e)) {vs cs : List Value} (h : VRs ex μ1 (vs.map (renV r 3)) cs) : VRs ex μ' vs cs :=
  VRs.ren (fun v c => VR.ren hr 3 v c) h

/-- A quiet function. -/
theorem CallR.frameQ {P : Program} {ex : Bool} {f : FuncId} {args0 args : List Value} {σ0 σ0' σ : AHeap} {v : Value} {r : Nat → Nat} (hs : Reads σ0 r σ) (ha : args0.map (renV r 3) = args)
    (h : CallR P ex f args0 σ0 v σ0') (hv : plain v = true) : CallR P ex f args σ v σ := by
  intro B μ w cargs hr hargs
  subst ha
  refine (h (old w) _ w cargs (hs.heap hr) (hargs.ren' (hs.back hr))).mono ?_
  rintro cv w' ⟨μ', q1, q2, q3, q4⟩
  exact ⟨μ, q1.plain_ren hv, hr.below q4, Ext.refl _, ⟨q4.os, q4.tape, q4.output, q4.size, fun k hk => q4.block k (hr.hB k hk)⟩⟩

/-- A function that makes one new row (block k of the small heap) and hands it out. -/
theorem CallR.frameN {P : Program} {ex : Bool} {f : FuncId} {args0 args : List Value} {σ0 σ0' σ : AHeap} {v v0 : Value} {r q : Nat → Nat} {k : Nat} {vs : List Value} {opn : Option Nat} (hs : Reads σ0 r σ) (ha : args0.map (renV r 3) = args)
    (h : CallR P ex f args0 σ0 v0 σ0') (hk : σ0'[k]? = some (.row vs true opn)) (hp : vs.all plain = true) (hq : ∀ b, q b = if b = σ.length then k else b + σ0'.length) (hv : v0 = renV q 3 v) : CallR P ex f args σ v (σ ++ [.row vs true opn]) := by
  intro B μ w cargs hr hargs
  subst ha
  refine (h (old w) _ w cargs (hs.heap hr) (hargs.ren' (hs.back hr))).mono ?_
  rintro cv w' ⟨μ', q1, q2, q3, q4⟩
  obtain ⟨e, he⟩ := q2.has k _ hk rfl
  have hob := q2.obj k _ e hk he
  have hsz : w.heap.size ≤ e.cb := by
    obtain ⟨_, _, c, el, lo, hi, _, _, _, g5⟩ := hob
    have := (g5 rfl).1
    unfold old at this
    omega
  have hbel : Blw B w w' := ⟨q4.os, q4.tape, q4.output, q4.size, fun k hk => q4.block k (hr.hB k hk)⟩
  have hr' := hr.below q4
  have hnew : ∀ b (e' : Ent), (μ ++ [some e])[b]? = some (some e') → (b < μ.length ∧ μ[b]? = some (some e')) ∨ (b = μ.length ∧ e' = e) := by
    intro b e' hb
    rcases Nat.lt_or_ge b μ.length with h' | h'
    · left; rw [List.getElem?_append_left h'] at hb; exact ⟨h', hb⟩
    · right
      rw [List.getElem?_append_right h'] at hb
      have hlt := lt_of_some hb
      simp only [List.length_singleton] at hlt
      have h0 : b - μ.length = 0 := by omega
      rw [h0] at hb
      simp only [List.getElem?_cons_zero, Option.some.injEq] at hb
      exact ⟨by omega, hb.symm⟩
  have hobj : ∀ b o, (σ ++ [AObj.row vs true opn])[b]? = some o → (b < σ.length ∧ σ[b]? = some o) ∨ (b = σ.length ∧ o = .row vs true opn) := by
    intro b o hb
    rcases Nat.lt_or_ge b σ.length with h' | h'
    · left; rw [List.getElem?_append_left h'] at hb; exact ⟨h', hb⟩
    · right
      rw [List.getElem?_append_right h'] at hb
      have hlt := lt_of_some hb
      simp only [List.length_singleton] at hlt
      have h0 : b - σ.length = 0 := by omega
      rw [h0] at hb
      simp only [List.getElem?_cons_zero, Option.some.injEq] at hb
      exact ⟨by omega, hb.symm⟩
  have hl := hr.len
  have old : ∀ (b : Nat) (o : AObj) (e' : Ent), σ[b]? = some o → μ[b]? = some (some e') → o.live = true → e'.cb < w.heap.size := fun b o e' h1 h2 h3 => (hr.obj b o e' h1 h2).lt h3
  refine ⟨μ ++ [some e], ?_, ⟨by simp [hl], fun k hk => by have := q4.size; have := hr.hB k hk; omega, fun b o hb hlv => ?_, fun b o e' hb he' => ?_, fun b b' o o' e1 e2 hb hb' he1 he2 ho hlv hc => ?_⟩, Ext.snoc _ _, hbel⟩
  · rw [hv] at q1
    refine VR.ren (r := q) (fun b e' hb => ?_) 3 _ _ q1
    rw [hq] at hb
    split at hb
    · rename_i h1
      rw [he] at hb
      cases hb
      rw [List.getElem?_append_right (by omega), h1, ← hl]
      simp
    · have := lt_of_some hb
      have := q2.len
      omega
  · rcases hobj b o hb with ⟨h1, h2⟩ | ⟨h1, rfl⟩
    · obtain ⟨e', he'⟩ := hr.has b o h2 hlv
      exact ⟨e', by rw [List.getElem?_append_left (by omega)]; exact he'⟩
    · exact ⟨e, by rw [List.getElem?_append_right (by omega), h1, ← hl]; simp⟩
  · rcases hobj b o hb with ⟨h1, h2⟩ | ⟨h1, rfl⟩
    · rcases hnew b e' he' with ⟨g1, g2⟩ | ⟨g1, g2⟩
      · refine (hr'.obj b o e' h2 g2).mono (Sub.snoc _ _) (fun _ => rfl)
      · omega
    · rcases hnew b e' he' with ⟨g1, g2⟩ | ⟨g1, rfl⟩
      · omega
      · obtain ⟨g0, g1', c, el, lo, hi, g2, g3, g4, g5⟩ := hob
        exact ⟨g0, g1', c, el, lo, hi, g2, g3, g4.plain_to hp, fun h => ⟨fun hk => by have := hr.hB _ hk; omega, (g5 h).2⟩⟩
  · rcases hobj b o hb with ⟨h1, h2⟩ | ⟨h1, rfl⟩
    · rcases hnew b e1 he1 with ⟨g1, g2⟩ | ⟨g1, g2⟩
      · rcases hobj b' o' hb' with ⟨h1', h2'⟩ | ⟨h1', rfl⟩
        · rcases hnew b' e2 he2 with ⟨g1', g2'⟩ | ⟨g1', g2'⟩
          · exact hr.inj b b' o o' e1 e2 h2 h2' g2 g2' ho hlv hc
          · omega
        · rcases hnew b' e2 he2 with ⟨g1', g2'⟩ | ⟨g1', rfl⟩
          · omega
          · have := old b o e1 h2 g2 (by cases o <;> first | rfl | cases ho)
            omega
      · omega
    · rcases hnew b e1 he1 with ⟨g1, g2⟩ | ⟨g1, rfl⟩
      · omega
      · rcases hobj b' o' hb' with ⟨h1', h2'⟩ | ⟨h1', rfl⟩
        · rcases hnew b' e2 he2 with ⟨g1', g2'⟩ | ⟨g1', g2'⟩
          · have := old b' o' e2 h2' g2' hlv
            omega
          · omega
        · omega
end Go.Lk
end

section
/- Loops: their bodies, their rounds; rows as functions. -/
namespace Go.Lk
set_option linter.unusedSimpArgs false
set_option linter.unusedVariables false

def loopsOf : Code → List Code
  | .loop b => b :: loopsOf b
  | .seq a b => loopsOf a ++ loopsOf b
  | .cond _ x y => loopsOf x ++ loopsOf y
  | .block _ b | .scope b => loopsOf b
  | _ => []
/-- The body of loop k of a function (in the text's order). -/
def loopOf (fn : Func) (k : Nat) : Code := match fn.body with | some b => (loopsOf b).getD k .skip | none => .skip
def regsOf : Code → List (Nat × Code)
  | .region i ops d => [(i, .region i ops d)]
  | .seq a b => regsOf a ++ regsOf b
  | .cond _ x y => regsOf x ++ regsOf y
  | .block _ b | .loop b | .scope b => regsOf b
  | _ => []
def regOf (fn : Func) (i : Nat) : Code := match fn.body with | some b => (look (regsOf b) i).getD .skip | none => .skip
def regOps : Code → Array Oper
  | .region _ ops _ => ops
  | _ => #[]

/-! ### Rows as functions -/
def rowOf (f : Nat → List Value) (n : Nat) : List Value := (List.range n).flatMap f
theorem rowOf_len {f : Nat → List Value} {s : Nat} (hf : ∀ i, (f i).length = s) : ∀ n, (rowOf f n).length = n * s := by
  intro n
  unfold rowOf
  induction n with
  | zero => simp
  | succ n ih => rw [List.range_succ, List.flatMap_append, List.length_append, ih]; simp [hf, Nat.succ_mul]
theorem rowOf_succ (f : Nat → List Value) (n : Nat) : rowOf f (n + 1) = rowOf f n ++ f n := by
  unfold rowOf; rw [List.range_succ, List.flatMap_append]; simp
theorem rowOf_at {f : Nat → List Value} {s : Nat} (hf : ∀ i, (f i).length = s) {k : Nat} : ∀ {n : Nat}, k < n → ((rowOf f n).drop (k * s)).take s = f k := by
  intro n
  induction n with
  | zero => intro h; omega
  | succ n ih =>
    intro h
    rw [rowOf_succ]
    have hl := rowOf_len hf n
    rcases Nat.lt_or_eq_of_le (Nat.le_of_lt_succ h) with h' | h'
    · have h1 : k * s + s ≤ n * s := by
        have := Nat.mul_le_mul_right s (show k + 1 ≤ n from h')
        rw [Nat.succ_mul] at this; exact this
      rw [List.drop_append_of_le_length (by omega), List.take_append_of_le_length (by rw [List.length_drop]; omega)]
      exact ih h'
    · subst h'
      rw [List.drop_append, hl, Nat.sub_self, List.drop_of_length_le (by omega)]
      simp only [List.drop_zero, List.nil_append]
      exact List.take_of_length_le (by rw [hf]; exact Nat.le_refl _)

/-- A sum of integers that stays in bounds. -/
def wF (k : IntKind) (e : Int) (σ : AHeap) : Option (Value × AHeap) := some (.int k (k.wrap e), σ)
theorem i64_wrap {e : Int} (h : -9223372036854775808 ≤ e ∧ e ≤ 9223372036854775807) : IntKind.i64.wrap e = e := by
  unfold IntKind.wrap
  simp [IntKind.bits, IntKind.signed]
  omega
theorem wF_ok {e e' : Int} (σ : AHeap) (h : -9223372036854775808 ≤ e ∧ e ≤ 9223372036854775807) (he : e = e') : wF .i64 e σ = some (.int .i64 e', σ) := by
  unfold wF; rw [i64_wrap h, he]
/-- An element's address. -/
def ixF (V : Value) (σ : AHeap) (n : Int) (len : Nat) : Option (Value × AHeap) :=
  match (if 0 ≤ n ∧ n < (len : Int) then some V else none : Option Value) with
  | some v => some (v, σ)
  | none => none
theorem ixF_ok (V : Value) (σ : AHeap) {n : Int} {len : Nat} (h : 0 ≤ n ∧ n < (len : Int)) : ixF V σ n len = some (V, σ) := by unfold ixF; rw [if_pos h]
/-- A load. -/
def ldF (o : Option Value) (σ : AHeap) : Option (Value × AHeap) :=
  match o with
  | some v => some (v, σ)
  | none => none
theorem ldF_ok {o : Option Value} {v : Value} {σ : AHeap} (h : o = some v) : ldF o σ = some (v, σ) := by rw [h]; rfl
theorem load_agg {P : Program} {σ : AHeap} {t : TypeId} {b s off k n : Nat} {f : Nat → List Value} {rw' : Bool} {opn : Option Nat} (hσ : σ[b]? = some (.row (rowOf f n) rw' opn)) (hd : (P.underlying t).map isAggD = some true)
    (hs : tSize P t = some s) (hf : ∀ i, (f i).length = s) (ho : off = k * s) (hk : k < n) : aLoad P σ t (.pointer (some ⟨b, off, none⟩)) = some (.agg (f k).toArray) := by
  cases hu : P.underlying t with
  | none => rw [hu] at hd; cases hd
  | some d =>
  rw [hu] at hd
  have hd : isAggD d = true := by simpa using hd
  unfold aLoad
  simp only [hσ, hu, hd, hs, cond_true]
  have hl := rowOf_len hf n
  have h1 : k * s + s ≤ n * s := by
    have := Nat.mul_le_mul_right s (show k + 1 ≤ n from hk)
    rw [Nat.succ_mul] at this; exact this
  rw [if_pos (by omega), ho, rowOf_at hf hk]
theorem load_one {P : Program} {σ : AHeap} {t : TypeId} {b off k n : Nat} {g : Nat → Value} {rw' : Bool} {opn : Option Nat} (hσ : σ[b]? = some (.row (rowOf (fun i => [g i]) n) rw' opn)) (hd : (P.underlying t).map isAggD = some false)
    (ho : off = k) (hk : k < n) : aLoad P σ t (.pointer (some ⟨b, off, none⟩)) = some (g k) := by
  cases hu : P.underlying t with
  | none => rw [hu] at hd; cases hd
  | some d =>
  rw [hu] at hd
  have hd : isAggD d = false := by simpa using hd
  unfold aLoad
  simp only [hσ, hu, hd, cond_false]
  have h := rowOf_at (f := fun i => [g i]) (s := 1) (fun i => rfl) (k := k) hk
  rw [Nat.mul_one] at h
  have h2 := congrArg (fun l => l[0]?) h
  simp only [List.getElem?_take, List.getElem?_drop] at h2
  rw [ho]
  simpa using h2

/-! ### What is kept of a round -/
/-- No names from m on. -/
def named0 (m : Nat) : Value → Bool
  | .pointer (some ⟨b, _, _⟩) => Nat.blt b m
  | .slice (some ⟨b, _, _⟩) _ _ => Nat.blt b m
  | v => flat0 v
def closedV (m : Nat) : Value → Bool
  | .agg cs => cs.toList.all (named0 m)
  | .tuple cs => cs.toList.all (named0 m)
  | v => named0 m v
theorem named0_inert {m : Nat} {v : Value} {r : Nat → Nat} (hr : ∀ b, b < m → r b = b) (h : named0 m v = true) (d : Nat) : renV r d v = v := by
  unfold named0 at h
  split at h
  · rename_i b o s
    have := hr b (by simpa [Nat.blt_eq] using h)
    cases d <;> simp only [renV, this]
  · rename_i b o s l c
    have := hr b (by simpa [Nat.blt_eq] using h)
    cases d <;> simp only [renV, this]
  · exact flat0_inert h d r
theorem namedL_inert {m : Nat} {r : Nat → Nat} (hr : ∀ b, b < m → r b = b) (d : Nat) : ∀ {cs : List Value}, cs.all (named0 m) = true → cs.map (renV r d) = cs
  | [], _ => rfl
  | c :: cs, h => by
    rw [List.all_cons, Bool.and_eq_true] at h
    rw [List.map_cons, named0_inert hr h.1, namedL_inert hr d h.2]
theorem closedV_inert {m : Nat} {v : Value} {r : Nat → Nat} (hr : ∀ b, b < m → r b = b) (h : closedV m v = true) : renV r 3 v = v := by
  unfold closedV at h
  split at h
  · simp only [renV]; rw [namedL_inert hr _ h]
  · simp only [renV]; rw [namedL_inert hr _ h]
  · exact named0_inert hr h 3
def closedO (m : Nat) : AObj → Bool
  | .row vs _ _ => vs.all (named0 m)
  | _ => true
def maskF : List Bool → List Value → List Value
  | b :: bs, v :: vs => (bif b then v else undef) :: maskF bs vs
  | _, vs => vs.map fun _ => undef
def closedF (m : Nat) : List Bool → List Value → Bool
  | b :: bs, v :: vs => (!b || closedV m v) && closedF m bs vs
  | _, _ => true
theorem maskF_emb {m : Nat} {r : Nat → Nat} (hr : ∀ b, b < m → r b = b) : ∀ (bs : List Bool) (vs : List Value), closedF m bs vs = true → FrEmb r (maskF bs vs) vs
  | b :: bs, v :: vs, h => by
    unfold closedF at h
    rw [Bool.and_eq_true] at h
    refine ⟨?_, maskF_emb hr bs vs h.2⟩
    cases b
    · left; rfl
    · right
      have h1 : closedV m v = true := by simpa using h.1
      exact (closedV_inert hr h1).symm
  | [], v :: vs, h => ⟨.inl rfl, by
    have : ∀ vs : List Value, FrEmb r (vs.map fun _ => undef) vs := by
      intro vs
      induction vs with
      | nil => trivial
      | cons v vs ih => exact ⟨.inl rfl, ih⟩
    exact this vs⟩
  | [], [], _ => trivial
  | _ :: _, [], _ => trivial

/-- The end of a stretch, its blocks renamed; the first n0 keep their names. -/
theorem Sim.embN {C : Cfg} {c : Code} {fr fr1 fr' : List Value} {σ0 σ σ1 σ' : AHeap} {e : Exit} {r : Nat → Nat} {n0 : Nat} (h : Sim C n0 c fr σ e fr1 σ1) (hs : Stood C.ex σ0) (hn : n0 ≤ σ.length) (hn' : n0 ≤ σ'.length) (hfix : ∀ b, b < n0 → r b = b) (he : Emb σ0 r σ' σ1) (hf : FrEmb r fr' fr1) :
    Sim C n0 c fr σ e fr' σ' := by
  intro B μ tmps defers w Q hf0 hr hQ
  refine h B μ tmps defers w Q hf0 hr ?_
  intro μ1 tmps' w' q1 q2 q3 q4
  have hback := he.back q2
  refine hQ (renM μ1 r σ'.length) tmps' w' ⟨by rw [hf.len]; exact q1.1, fun i a ha => ?_⟩ (he.heap q2 hs) (fun b hb => ?_) q4
  · have hlt := lt_of_some ha
    rcases hf.get i a ha with hu | hb
    · obtain ⟨c, hc⟩ : ∃ c, tmps'[i]? = some c := ⟨_, Array.getElem?_eq_getElem (by rw [← q1.1, ← hf.len]; exact hlt)⟩
      exact ⟨c, hc, .inl hu⟩
    · obtain ⟨c, hc, hv⟩ := q1.2 i _ hb
      refine ⟨c, hc, ?_⟩
      rcases hv with hu | hv
      · exact .inl (isU_ren hu)
      · exact .inr (VR.ren hback 3 _ _ hv)
  · have hlt : b < μ.length := by rw [hr.len]; omega
    rw [renM_get (by omega), hfix b hb, q3 b hb, List.getElem?_eq_getElem hlt]
    rfl

/-- A frame that is known better. -/
theorem Sim.enter {C : Cfg} {c : Code} {fr fr0 fr1 : List Value} {σ σ1 : AHeap} {e : Exit} {n0 : Nat} (h : Sim C n0 c fr σ e fr1 σ1) (mask : List Bool) (hm : maskF mask fr0 = fr) : Sim C n0 c fr0 σ e fr1 σ1 := by
  subst hm
  intro B μ tmps defers w Q hf0 hr hQ
  refine h B μ tmps defers w Q ?_ hr hQ
  have hl : ∀ (bs : List Bool) (vs : List Value), (maskF bs vs).length = vs.length := by
    intro bs
    induction bs with
    | nil => intro vs; cases vs <;> simp [maskF]
    | cons b bs ih => intro vs; cases vs with
      | nil => simp [maskF]
      | cons v vs => simp [maskF, ih]
  have hg : ∀ (bs : List Bool) (vs : List Value) (i : Nat) (a : Value), (maskF bs vs)[i]? = some a → isU a = true ∨ vs[i]? = some a := by
    intro bs
    induction bs with
    | nil =>
      intro vs i a h
      left
      have : maskF [] vs = vs.map fun _ => undef := by cases vs <;> rfl
      rw [this, List.getElem?_map] at h
      cases hv : vs[i]? with
      | none => rw [hv] at h; cases h
      | some v => rw [hv] at h; cases h; rfl
    | cons b bs ih =>
      intro vs i a h
      cases vs with
      | nil => simp [maskF] at h
      | cons v vs =>
        cases i with
        | zero =>
          simp only [maskF, List.getElem?_cons_zero, Option.some.injEq] at h
          cases b
          · left; rw [← h]; rfl
          · right; rw [← h]; rfl
        | succ i =>
          simp only [maskF, List.getElem?_cons_succ] at h ⊢
          exact ih vs i a h
  refine ⟨by rw [hl]; exact hf0.1, fun i a ha => ?_⟩
  rcases hg mask fr0 i a ha with hu | hb
  · have hlt := lt_of_some ha
    rw [hl] at hlt
    exact ⟨_, Array.getElem?_eq_getElem (by rw [← hf0.1]; exact hlt), .inl hu⟩
  · exact hf0.2 i a hb

/-- The end of a stretch: the scratch slots and the blocks from m on are given up. -/
theorem Sim.keep {C : Cfg} {c : Code} {fr fr1 : List Value} {σ0 σ σ1 : AHeap} {e : Exit} {n0 : Nat} (h : Sim C n0 c fr σ e fr1 σ1) (hs : Stood C.ex σ0) (hn : n0 ≤ σ.length) (m : Nat) (mask : List Bool)
    (hnm : n0 ≤ m) (h0 : σ0.length ≤ m) (hm : m ≤ σ1.length) (hfix : σ1.take σ0.length = σ0) (hc : ((σ1.take m).drop σ0.length).all (closedO m) = true) (hf : closedF m mask fr1 = true) : Sim C n0 c fr σ e (maskF mask fr1) (σ1.take m) := by
  have hr : ∀ b, b < m → (fun b => if b < m then b else b + σ1.length) b = b := fun b hb => by simp [hb]
  refine h.embN (r := fun b => if b < m then b else b + σ1.length) hs hn (by simp; omega) (fun b hb => hr b (by omega)) ⟨by simp; omega, fun b hb => ?_, fun b hb => hr b (by omega), fun b b' o o' hb hb' _ _ e => ?_, fun b o hb hl => ?_⟩ (maskF_emb hr mask fr1 hf)
  · simp only [List.length_take] at hb
    have : ¬ b < m := by omega
    simp only [this, if_false]; omega
  · have h1 := lt_of_some hb
    have h2 := lt_of_some hb'
    simp only [List.length_take] at h1 h2
    have g1 : b < m := by omega
    have g2 : b' < m := by omega
    simpa [g1, g2] using e
  · have h1 := lt_of_some hb
    simp only [List.length_take] at h1
    have hb1 : σ1[b]? = some o := by
      rw [List.getElem?_take] at hb
      split at hb
      · exact hb
      · cases hb
    rcases Nat.lt_or_ge b σ0.length with h' | h'
    · left
      refine ⟨h', ?_, hb1⟩
      rw [← hfix, List.getElem?_take, if_pos h']
      exact hb1
    · right
      have hbm : b < m := by omega
      simp only [hbm, if_true]
      rw [hb1]
      congr 1
      have hmem : o ∈ (σ1.take m).drop σ0.length := by
        have : ((σ1.take m).drop σ0.length)[b - σ0.length]? = some o := by
          rw [List.getElem?_drop, show σ0.length + (b - σ0.length) = b by omega]; exact hb
        exact List.mem_of_getElem? this
      have := List.all_eq_true.1 hc o hmem
      cases o with
      | row vs rw' opn => simp only [closedO] at this; simp only [renO]; rw [namedL_inert hr 3 this]
      | dead => rfl
      | iter s p => rfl
theorem Sim.keep' {C : Cfg} {c : Code} {fr fr1 fr' : List Value} {σ0 σ σ1 σ' : AHeap} {e : Exit} {L : Nat} (n0 : Nat) (h : Sim C L c fr σ e fr1 σ1) (hL : L = σ.length) (hs : Stood C.ex σ0) (m : Nat) (mask : List Bool)
    (hn : Nat.ble n0 σ.length = true) (hnm : Nat.ble n0 m = true) (h0 : Nat.ble σ0.length m = true) (hm : Nat.ble m σ1.length = true) (hfix : σ1.take σ0.length = σ0) (hc : ((σ1.take m).drop σ0.length).all (closedO m) = true) (hf : closedF m mask fr1 = true)
    (e1 : maskF mask fr1 = fr') (e2 : σ1.take m = σ') : Sim C n0 c fr σ e fr' σ' := by
  subst e1 e2
  have hn' := Nat.le_of_ble_eq_true hn
  exact Sim.keep (h.le (by omega)) hs hn' m mask (Nat.le_of_ble_eq_true hnm) (Nat.le_of_ble_eq_true h0) (Nat.le_of_ble_eq_true hm) hfix hc hf

theorem CallR.of_DOXs {C : Cfg} (hC : C.Ok) {X : List Nat} {f : FuncId} {fn : Func} {args : List Value} {σ σ1 : AHeap} {v : Value} {n : Nat} {orc : Orc} {ps : List Prop}
    (hf : C.P.funcs[f]? = some fn) (hok : fnOkX C X fn = true) (h : DOfnX C X n fn args σ orc = some (ps, v, σ1)) (hp : Stood C.ex σ → All ps) : CallR C.P C.ex f args σ v σ1 :=
  fun B μ w cargs hr hargs => CallR.of_DOX hC hf hok h (hp ⟨B, μ, w, hr⟩) B μ w cargs hr hargs
theorem Sim.cast {C : Cfg} {c : Code} {fr fr' fr1 fr1' : List Value} {σ σ' σ1 σ1' : AHeap} {e : Exit} {n0 : Nat} (h : Sim C n0 c fr σ e fr1 σ1) (e1 : fr = fr') (e2 : σ = σ') (e3 : fr1 = fr1') (e4 : σ1 = σ1') : Sim C n0 c fr' σ' e fr1' σ1' := by
  subst e1 e2 e3 e4; exact h

/-- A round of a loop: what is asked, how it ends, what is kept. -/
def roundR (C : Cfg) (X : List Nat) (n : Nat) (body : Code) (orc : Orc) (s0 m : Nat) (mask : List Bool) (fr : List Value) (σ : AHeap) : Option (List Prop × Exit × List Value × AHeap) :=
  match DO C X n body 0 orc fr σ with
  | some (ps, e, _, _, fr1, σ1) =>
    bif Nat.ble m σ.length && (Nat.ble m σ1.length && (closedF m mask fr1 && ((σ1.take m).drop s0).all (closedO m))) then some (ps, e, maskF mask fr1, σ1.take m) else none
  | none => none
theorem Sim.of_round {C : Cfg} (hC : C.Ok) {X : List Nat} {n : Nat} {body : Code} {orc : Orc} {m : Nat} {mask : List Bool} {fr fr' : List Value} {σ σ' σ0 : AHeap} {ps : List Prop} {e : Exit} (hok : codeOkX C X body = true)
    (h : roundR C X n body orc σ0.length m mask fr σ = some (ps, e, fr', σ')) (hp : All ps) (hst : Stood C.ex σ0) (h0 : Nat.ble σ0.length m = true) (hfix : σ'.take σ0.length = σ0) : Sim C m body fr σ e fr' σ' := by
  unfold roundR at h
  split at h
  · rename_i ps1 e1 t1 o1 fr1 σ1 hd
    cases hb : (Nat.ble m σ.length && (Nat.ble m σ1.length && (closedF m mask fr1 && ((σ1.take m).drop σ0.length).all (closedO m))))
    · rw [hb] at h; cases h
    · rw [hb] at h
      simp only [cond_true, Option.some.injEq, Prod.mk.injEq] at h
      obtain ⟨rfl, rfl, rfl, rfl⟩ := h
      simp only [Bool.and_eq_true] at hb
      obtain ⟨b1, b2, b3, b4⟩ := hb
      have h0' := Nat.le_of_ble_eq_true h0
      have b1' := Nat.le_of_ble_eq_true b1
      refine Sim.keep ((DO_sound hC X n _ _ _ _ _ hok hd hp).1.le b1') hst b1' m mask (Nat.le_refl _) h0' (Nat.le_of_ble_eq_true b2) ?_ b4 b3
      rw [List.take_take, Nat.min_eq_left h0'] at hfix
      exact hfix
  · cases h
end Go.Lk
end

section
/- Rounds that grow rows, write rows: what they keep. -/
namespace Go.Lk
set_option linter.unusedSimpArgs false
set_option linter.unusedVariables false

/-! ### Rows as functions: more -/
theorem rowOf_all {f : Nat → List Value} {p : Value → Bool} (h : ∀ i, (f i).all p = true) : ∀ n, (rowOf f n).all p = true := by
  intro n
  induction n with
  | zero => rfl
  | succ n ih => rw [rowOf_succ, List.all_append, ih, h]; rfl
theorem rowOf_congr {f g : Nat → List Value} : ∀ {n : Nat}, (∀ i, i < n → f i = g i) → rowOf f n = rowOf g n := by
  intro n
  induction n with
  | zero => intro _; rfl
  | succ n ih => intro h; rw [rowOf_succ, rowOf_succ, ih (fun i hi => h i (by omega)), h n (by omega)]
theorem rowOf_zero (f : Nat → List Value) : rowOf f 0 = [] := rfl
theorem rowOf_take {f : Nat → List Value} {s : Nat} (hf : ∀ i, (f i).length = s) : ∀ {n m : Nat}, m ≤ n → (rowOf f n).take (m * s) = rowOf f m := by
  intro n
  induction n with
  | zero => intro m h; have : m = 0 := by omega
            subst this; simp [rowOf_zero]
  | succ n ih =>
    intro m h
    rw [rowOf_succ]
    have hl := rowOf_len hf n
    rcases Nat.lt_or_eq_of_le h with h' | h'
    · have h1 : m * s ≤ n * s := Nat.mul_le_mul_right s (by omega)
      rw [List.take_append_of_le_length (by omega)]
      exact ih (by omega)
    · subst h'
      rw [← rowOf_succ]
      exact List.take_of_length_le (by rw [rowOf_len hf]; exact Nat.le_refl _)
theorem rowOf_splice {f g : Nat → List Value} {s : Nat} (hf : ∀ i, (f i).length = s) (hg : ∀ i, (g i).length = s) {k n : Nat} (hk : k < n) (hne : ∀ i, i ≠ k → g i = f i) : splice (rowOf f n) (k * s) (g k) = rowOf g n := by
  have hlf := rowOf_len hf n
  have hlg := rowOf_len hg n
  have hgk := hg k
  have hks : k * s + s ≤ n * s := by
    have := Nat.mul_le_mul_right s (show k + 1 ≤ n from hk)
    rw [Nat.succ_mul] at this; exact this
  unfold splice
  have e1 : rowOf g n = (rowOf g n).take (k * s) ++ ((rowOf g n).drop (k * s)).take s ++ (rowOf g n).drop (k * s + s) := by
    rw [List.append_assoc]
    conv => lhs; rw [← List.take_append_drop (k * s) (rowOf g n)]
    congr 1
    conv => lhs; rw [← List.take_append_drop s ((rowOf g n).drop (k * s))]
    rw [List.drop_drop]
  rw [e1, rowOf_at hg hk, rowOf_take hg (by omega), rowOf_take hf (by omega), hgk]
  congr 1
  · congr 1
    exact rowOf_congr fun i hi => (hne i (by omega)).symm
  · apply List.ext_getElem?
    intro j
    rw [List.getElem?_drop, List.getElem?_drop]
    rcases Nat.eq_zero_or_pos s with h0 | hs
    · rw [List.getElem?_eq_none (by rw [hlf, h0]; simp), List.getElem?_eq_none (by rw [hlg, h0]; simp)]
    · rcases Nat.lt_or_ge (k * s + s + j) (n * s) with hj | hj
      · have hq : (k * s + s + j) / s < n := (Nat.div_lt_iff_lt_mul hs).2 hj
        have hm := Nat.mod_lt (k * s + s + j) hs
        have hd := Nat.div_add_mod (k * s + s + j) s
        have hkq : k < (k * s + s + j) / s := by
          rw [Nat.lt_iff_add_one_le, Nat.le_div_iff_mul_le hs, Nat.succ_mul]
          omega
        have r1 : (rowOf f n)[(k * s + s + j) / s * s + (k * s + s + j) % s]? = (f ((k * s + s + j) / s))[(k * s + s + j) % s]? := by
          have h2 := congrArg (fun l => l[(k * s + s + j) % s]?) (rowOf_at hf hq)
          simp only [List.getElem?_take, List.getElem?_drop, hm, if_true] at h2
          exact h2
        have r2 : (rowOf g n)[(k * s + s + j) / s * s + (k * s + s + j) % s]? = (g ((k * s + s + j) / s))[(k * s + s + j) % s]? := by
          have h2 := congrArg (fun l => l[(k * s + s + j) % s]?) (rowOf_at hg hq)
          simp only [List.getElem?_take, List.getElem?_drop, hm, if_true] at h2
          exact h2
        rw [Nat.mul_comm _ s, hd] at r1 r2
        rw [r1, r2, hne _ (by omega)]
      · rw [List.getElem?_eq_none (by omega), List.getElem?_eq_none (by omega)]
theorem zrow_rowOf (z : List Value) (hz : z ≠ []) (n : Nat) : zrow z (n * z.length) = rowOf (fun _ => z) n := by
  have hl := rowOf_len (f := fun _ => z) (s := z.length) (fun _ => rfl) n
  have hs : 0 < z.length := List.length_pos_iff.2 hz
  apply List.ext_getElem?
  intro j
  unfold zrow
  rw [List.getElem?_map]
  rcases Nat.lt_or_ge j (n * z.length) with hj | hj
  · rw [List.getElem?_range hj]
    have hq : j / z.length < n := (Nat.div_lt_iff_lt_mul hs).2 hj
    have hm := Nat.mod_lt j hs
    have hd := Nat.div_add_mod j z.length
    have h2 := congrArg (fun l => l[j % z.length]?) (rowOf_at (f := fun _ => z) (s := z.length) (fun _ => rfl) hq)
    simp only [List.getElem?_take, List.getElem?_drop, hm, if_true] at h2
    rw [Nat.mul_comm _ z.length, hd] at h2
    rw [h2]
    simp [List.getD_eq_getElem?_getD, hm]
  · rw [List.getElem?_eq_none (l := List.range (n * z.length)) (by simpa using hj), List.getElem?_eq_none (by omega)]
    rfl

/-! ### What is kept, under other names -/
def rOf (ks : List Nat) (big : Nat) (b : Nat) : Nat := match ks[b]? with | some x => x | none => b + big
def pickH (ks : List Nat) (σ : AHeap) : AHeap := ks.map fun k => σ.getD k .dead
def plainO : AObj → Prop
  | .row vs _ _ => vs.all plain = true
  | _ => True
theorem plainO.ren {r : Nat → Nat} {o : AObj} (h : plainO o) : renO r o = o := by
  cases o with
  | row vs rw' opn =>
    simp only [renO]
    congr 1
    have key : ∀ l : List Value, l.all plain = true → l.map (renV r 3) = l := by
      intro l
      induction l with
      | nil => intro _; rfl
      | cons v l ih =>
        intro h
        rw [List.all_cons, Bool.and_eq_true] at h
        rw [List.map_cons, plain_inert h.1, ih h.2]
    exact key vs h
  | dead => rfl
  | iter s p => rfl

theorem emb_of_map {r : Nat → Nat} : ∀ (mask : List Bool) (fr1 fr' : List Value), maskF mask fr1 = fr'.map (renV r 3) → FrEmb r fr' fr1
  | _, [], [], _ => trivial
  | mask, [], b :: bs, h => by cases mask <;> simp [maskF] at h
  | mask, a :: as, [], h => by cases mask <;> simp [maskF] at h
  | [], a :: as, b :: bs, h => by
    simp only [maskF, List.map_cons, List.cons.injEq] at h
    have hm : maskF [] as = as.map fun _ => undef := by cases as <;> rfl
    refine ⟨.inl (isU_ren (by rw [← h.1]; rfl)), emb_of_map [] as bs (by rw [hm]; exact h.2)⟩
  | m :: ms, a :: as, b :: bs, h => by
    simp only [maskF, List.map_cons, List.cons.injEq] at h
    refine ⟨?_, emb_of_map ms as bs h.2⟩
    cases m
    · left; exact isU_ren (by rw [← h.1]; rfl)
    · right; exact h.1

theorem Sim.keepR {C : Cfg} {c : Code} {fr fr1 fr' : List Value} {σ0 σ σ1 σ' : AHeap} {e : Exit} {n0 : Nat} (h : Sim C n0 c fr σ e fr1 σ1) (hs : Stood C.ex σ0) (hn : n0 ≤ σ.length) (ks : List Nat) (mask : List Bool)
    (hn0 : ks.take n0 = List.range n0) (hk0 : ks.take σ0.length = List.range σ0.length) (hlt : ks.all (fun k => Nat.blt k σ1.length) = true) (hnd : ks.Nodup) (hσ : pickH ks σ1 = σ') (hfix : σ'.take σ0.length = σ0)
    (hp : ∀ b o, σ0.length ≤ b → σ'[b]? = some o → plainO o) (hf : maskF mask fr1 = fr'.map (renV (rOf ks σ1.length) 3)) : Sim C n0 c fr σ e fr' σ' := by
  have hlen : σ'.length = ks.length := by rw [← hσ]; simp [pickH]
  have hget : ∀ (b k : Nat), ks[b]? = some k → σ'[b]? = some (σ1.getD k .dead) ∧ k < σ1.length := by
    intro b k hb
    refine ⟨by rw [← hσ]; simp [pickH, hb], ?_⟩
    have := List.all_eq_true.1 hlt k (List.mem_of_getElem? hb)
    simpa [Nat.blt_eq] using this
  have hfixr : ∀ (m : Nat), ks.take m = List.range m → ∀ b, b < m → rOf ks σ1.length b = b ∧ b < ks.length := by
    intro m hm b hb
    have h1 : (ks.take m)[b]? = some b := by rw [hm, List.getElem?_range hb]
    rw [List.getElem?_take, if_pos hb] at h1
    exact ⟨by unfold rOf; rw [h1], lt_of_some h1⟩
  have hn0l : n0 ≤ ks.length := by
    rcases Nat.eq_zero_or_pos n0 with h0 | h0
    · omega
    · have := (hfixr n0 hn0 (n0 - 1) (by omega)).2; omega
  have hk0l : σ0.length ≤ ks.length := by
    rcases Nat.eq_zero_or_pos σ0.length with h0 | h0
    · omega
    · have := (hfixr _ hk0 (σ0.length - 1) (by omega)).2; omega
  refine h.embN (r := rOf ks σ1.length) hs hn (by omega) (fun b hb => (hfixr n0 hn0 b hb).1) ⟨by omega, fun b hb => ?_, fun b hb => (hfixr _ hk0 b hb).1, fun b b' o o' hb hb' _ _ e => ?_, fun b o hb hl => ?_⟩ (emb_of_map mask fr1 fr' hf)
  · unfold rOf
    rw [List.getElem?_eq_none (by omega)]
    simp only; omega
  · have h1 := lt_of_some hb
    have h2 := lt_of_some hb'
    obtain ⟨k, hk⟩ : ∃ k, ks[b]? = some k := ⟨_, List.getElem?_eq_getElem (by omega)⟩
    obtain ⟨k', hk'⟩ : ∃ k, ks[b']? = some k := ⟨_, List.getElem?_eq_getElem (by omega)⟩
    unfold rOf at e
    rw [hk, hk'] at e
    simp only at e
    subst e
    exact (List.getElem?_inj (lt_of_some hk) hnd).1 (hk.trans hk'.symm)
  · have h1 := lt_of_some hb
    obtain ⟨k, hk⟩ : ∃ k, ks[b]? = some k := ⟨_, List.getElem?_eq_getElem (by omega)⟩
    obtain ⟨g1, g2⟩ := hget b k hk
    rw [hb] at g1
    have hk1 : σ1[k]? = some o := by
      cases g1
      rw [List.getD_eq_getElem?_getD, List.getElem?_eq_getElem g2]
      rfl
    rcases Nat.lt_or_ge b σ0.length with h' | h'
    · left
      refine ⟨h', by rw [← hfix, List.getElem?_take, if_pos h']; exact hb, ?_⟩
      have := (hfixr _ hk0 b h').1
      unfold rOf at this
      rw [hk] at this
      simp only at this
      rw [← this]; exact hk1
    · right
      have : rOf ks σ1.length b = k := by unfold rOf; rw [hk]
      rw [this, (hp b o h' hb).ren]
      exact hk1
end Go.Lk
end

section
/- append, make and stores on rows that are told by functions. -/
namespace Go.Lk
set_option linter.unusedSimpArgs false
set_option linter.unusedVariables false

/-! ### append -/
/-- What the types must be: elements of z cells, not too many bytes. -/
def appOk (P : Program) (t t2 : TypeId) (z : Nat) : Bool :=
  match P.underlying t, P.underlying t2 with
  | some (.slice e), some d2 =>
    !isIntD d2 && (match P.info? e with
      | some inf => inf.size == z && Nat.ble inf.bytes 1048576 && (match tZero P e with | some zz => zz.cells.size == inf.size | none => false)
      | none => false)
  | _, _ => false

/-- The cells of a slice that a function tells. -/
theorem cells_row {σ : AHeap} {b z n m cap : Nat} {F : Nat → List Value} {rw' : Bool} {opn : Option Nat} (hσ : σ[b]? = some (.row (rowOf F m) rw' opn)) (hf : ∀ i, (F i).length = z) (hn : n ≤ m) (z' : Nat) :
    aCells σ z n (.slice (some ⟨b, 0, some z'⟩) n cap) = some (rowOf F n) := by
  have hl := rowOf_len hf m
  have hln := rowOf_len hf n
  have : n * z ≤ m * z := Nat.mul_le_mul_right z hn
  simp only [aCells, hσ]
  by_cases h0 : n * z = 0
  · rw [if_pos h0]
    congr 1
    exact (List.length_eq_zero_iff.1 (by rw [hln]; exact h0)).symm
  · rw [if_neg h0, if_pos ⟨Nat.le_refl _, by omega⟩, List.drop_zero, rowOf_take hf hn]

theorem append_grow {P : Program} {σ : AHeap} {t t2 : TypeId} {ts : List TypeId} {rest : List Value} {b N cap z : Nat} {F : Nat → List Value} {x : Value} {rw' : Bool} {opn : Option Nat}
    (hok : appOk P t t2 z = true) (hσ : σ[b]? = some (.row (rowOf F N) rw' opn)) (hrw : rw' = true ∨ opn = none) (hx : aCells σ z 1 x = some (F N)) (hlx : sLen x = some 1)
    (hf : ∀ i, (F i).length = z) (hone : (F N).all one = true) (hN : N < 67108864) (hcap : cap = N) :
    aAppend P σ (t :: t2 :: ts) (.slice (some ⟨b, 0, some z⟩) N cap :: x :: rest) = some (.slice (some ⟨σ.length, 0, some z⟩) (N + 1) (N + 1), kill σ b ++ [.row (rowOf F (N + 1)) true (some z)]) := by
  subst hcap
  unfold appOk at hok
  unfold aAppend
  cases h1 : P.underlying t with
  | none => rw [h1] at hok; cases hok
  | some d1 =>
  rw [h1] at hok
  cases h2 : P.underlying t2 with
  | none => rw [h2] at hok; cases d1 <;> cases hok
  | some d2 =>
  rw [h2] at hok
  cases d1 with
  | slice e =>
    simp only [Bool.and_eq_true, Bool.not_eq_true'] at hok
    obtain ⟨hi, hok⟩ := hok
    cases h3 : P.info? e with
    | none => rw [h3] at hok; cases hok
    | some inf =>
      rw [h3] at hok
      simp only [Bool.and_eq_true, beq_iff_eq] at hok
      obtain ⟨⟨hsz, hby⟩, hzz⟩ := hok
      have hby' := Nat.le_of_ble_eq_true hby
      simp only [h1, h2, h3, hlx, hi, cond_false, hsz, hx]
      rw [if_neg (by omega)]
      have hold : aCells σ z cap (.slice (some ⟨b, 0, some z⟩) cap cap) = some (rowOf F cap) := cells_row hσ hf (Nat.le_refl _) z
      rw [hold]
      simp only
      have hb2 : (cap + 1) * inf.bytes ≤ 70368744177664 := by
        have h4 : (cap + 1) * inf.bytes ≤ 67108864 * 1048576 := Nat.mul_le_mul (by omega) hby'
        omega
      rw [if_pos ⟨hb2, hby', by omega, hone⟩]
      cases h5 : tZero P e with
      | none => rw [h5] at hzz; cases hzz
      | some zz =>
        rw [h5] at hzz
        have hzz : zz.cells.size = inf.size := by simpa using hzz
        have hne : ¬ zz.cells.size ≠ z := by omega
        simp only [h5, hne, if_false, hσ, true_and, Nat.le_refl, if_true, hrw]
        rw [rowOf_succ]
  | _ => cases hok

/-- The first element. -/
theorem append_first {P : Program} {σ : AHeap} {t t2 : TypeId} {ts : List TypeId} {rest : List Value} {z : Nat} {F : Nat → List Value} {x : Value} {n : Nat}
    (hok : appOk P t t2 z = true) (hx : aCells σ z n x = some (rowOf F n)) (hlx : sLen x = some n) (hone : (rowOf F n).all one = true) (hn : 0 < n) (hN : n < 67108864) :
    aAppend P σ (t :: t2 :: ts) (.slice none 0 0 :: x :: rest) = some (.slice (some ⟨σ.length, 0, some z⟩) n n, σ ++ [.row (rowOf F n) true (some z)]) := by
  unfold appOk at hok
  unfold aAppend
  cases h1 : P.underlying t with
  | none => rw [h1] at hok; cases hok
  | some d1 =>
  rw [h1] at hok
  cases h2 : P.underlying t2 with
  | none => rw [h2] at hok; cases d1 <;> cases hok
  | some d2 =>
  rw [h2] at hok
  cases d1 with
  | slice e =>
    simp only [Bool.and_eq_true, Bool.not_eq_true'] at hok
    obtain ⟨hi, hok⟩ := hok
    cases h3 : P.info? e with
    | none => rw [h3] at hok; cases hok
    | some inf =>
      rw [h3] at hok
      simp only [Bool.and_eq_true, beq_iff_eq] at hok
      obtain ⟨⟨hsz, hby⟩, hzz⟩ := hok
      have hby' := Nat.le_of_ble_eq_true hby
      simp only [h1, h2, h3, hlx, hi, cond_false, hsz, hx, Nat.zero_add]
      rw [if_neg (by omega)]
      have hold : aCells σ z 0 (.slice none 0 0) = some [] := by
        unfold aCells; simp
      rw [hold]
      simp only
      have hb2 : n * inf.bytes ≤ 70368744177664 := by
        have h4 : n * inf.bytes ≤ 67108864 * 1048576 := Nat.mul_le_mul (by omega) hby'
        omega
      rw [if_pos ⟨hb2, hby', by omega, hone⟩]
      cases h5 : tZero P e with
      | none => rw [h5] at hzz; cases hzz
      | some zz =>
        rw [h5] at hzz
        have hzz : zz.cells.size = inf.size := by simpa using hzz
        have hne : ¬ zz.cells.size ≠ z := by omega
        simp only [h5, hne, if_false, List.nil_append]
  | _ => cases hok

/-! ### make -/
def mkOk (P : Program) (t : TypeId) (zs : List Value) : Bool :=
  match P.underlying t with
  | some (.slice e) =>
    match P.info? e with
    | some inf => Nat.ble inf.bytes 1048576 && inf.size == zs.length && !(inf.size == 0)
    | none => false
  | _ => false
theorem make_row {P : Program} {σ : AHeap} {t : TypeId} {zs : List Value} {k k' : IntKind} {l N : Nat} (hok : mkOk P t zs = true) (hz : (match P.underlying t with | some (.slice e) => (tZero P e).map (fun z => z.cells.toList) | _ => none) = some zs) (hone : zs.all one = true) (hl : l ≤ N) (hN : N < 67108864) :
    aMake P σ t (.int k (iN l)) (.int k' (iN N)) = some (.slice (some ⟨σ.length, 0, some zs.length⟩) l N, σ ++ [.row (rowOf (fun _ => zs) N) true none]) := by
  unfold mkOk at hok
  unfold aMake
  cases h1 : P.underlying t with
  | none => rw [h1] at hok; cases hok
  | some d1 =>
  rw [h1] at hok hz
  cases d1 with
  | slice e =>
    simp only at hok hz
    cases h3 : P.info? e with
    | none => rw [h3] at hok; cases hok
    | some inf =>
      rw [h3] at hok
      simp only [Bool.and_eq_true, beq_iff_eq, Bool.not_eq_true', beq_eq_false_iff_ne] at hok
      obtain ⟨⟨hby, hsz⟩, h0⟩ := hok
      have hby' := Nat.le_of_ble_eq_true hby
      simp only [h1, h3]
      have hb2 : (N : Int) * inf.bytes ≤ 281474976710656 := by
        have h4 : N * inf.bytes ≤ 67108864 * 1048576 := Nat.mul_le_mul (by omega) hby'
        have : ((N * inf.bytes : Nat) : Int) ≤ ((67108864 * 1048576 : Nat) : Int) := Int.ofNat_le.2 h4
        rw [Int.natCast_mul] at this
        omega
      have hcond : 0 ≤ iN l ∧ iN l ≤ iN N ∧ iN N * inf.bytes ≤ 281474976710656 ∧ iN N ≤ 281474976710656 := by
        rw [iN_eq, iN_eq]; exact ⟨by omega, by omega, hb2, by omega⟩
      have e1 : (iN l).toNat = l := rfl
      have e2 : (iN N).toNat = N := rfl
      rw [if_pos hcond]
      cases h5 : tZero P e with
      | none => rw [h5] at hz; cases hz
      | some zz =>
        rw [h5] at hz
        have hz : zz.cells.toList = zs := by simpa using hz
        have hzl : zz.cells.size = inf.size := by rw [hsz, ← hz]; simp
        simp only [h5, hz, e1, e2]
        rw [if_pos ⟨hzl, h0, hone⟩, hsz, zrow_rowOf zs (by intro h; rw [h] at hsz; exact h0 (by simpa using hsz)) N]
  | _ => cases hok

/-! ### stores -/
theorem store_row {P : Program} {σ : AHeap} {t : TypeId} {v : Value} {b z N k off : Nat} {f g : Nat → List Value} {opn : Option Nat} (hσ : σ[b]? = some (.row (rowOf f N) true opn)) (ht : tSize P t = some z) (hf : ∀ i, (f i).length = z) (hg : ∀ i, (g i).length = z)
    (hv : v.cells.toList = g k) (hone : (g k).all one = true) (ho : off = k * z) (hk : k < N) (hne : ∀ i, i ≠ k → g i = f i) :
    aStore P σ t (.pointer (some ⟨b, off, none⟩)) v = some (σ.set b (.row (rowOf g N) true opn)) := by
  unfold aStore
  simp only [hσ, ht, hv]
  have hl := rowOf_len hf N
  have h1 : k * z + z ≤ N * z := by
    have := Nat.mul_le_mul_right z (show k + 1 ≤ N from hk)
    rw [Nat.succ_mul] at this; exact this
  rw [if_pos ⟨hg k, by rw [hg k]; omega, hone⟩, ho, rowOf_splice hf hg hk hne]
/-- A row of which the first k elements are written. -/
def half2 (G Z : Nat → List Value) (k : Nat) : Nat → List Value := fun i => bif Nat.blt i k then G i else Z i
theorem half2_len {G Z : Nat → List Value} {s : Nat} (hg : ∀ i, (G i).length = s) (hz : ∀ i, (Z i).length = s) (k i : Nat) : (half2 G Z k i).length = s := by
  unfold half2; cases Nat.blt i k; exact hz i; exact hg i
theorem half2_at (G Z : Nat → List Value) (k : Nat) : half2 G Z (k + 1) k = G k := by
  unfold half2
  have : Nat.blt k (k + 1) = true := by rw [Nat.blt_eq]; omega
  rw [this]; rfl
theorem half2_ne (G Z : Nat → List Value) (k i : Nat) (h : i ≠ k) : half2 G Z (k + 1) i = half2 G Z k i := by
  unfold half2
  have : Nat.blt i (k + 1) = Nat.blt i k := by
    rw [Bool.eq_iff_iff, Nat.blt_eq, Nat.blt_eq]; omega
  rw [this]
theorem half2_zero (G Z : Nat → List Value) (n : Nat) : rowOf (half2 G Z 0) n = rowOf Z n := rowOf_congr fun i _ => by
  unfold half2
  have : Nat.blt i 0 = false := by cases h : Nat.blt i 0; rfl; rw [Nat.blt_eq] at h; omega
  rw [this]; rfl
theorem half2_full (G Z : Nat → List Value) (n : Nat) : rowOf (half2 G Z n) n = rowOf G n := rowOf_congr fun i hi => by
  unfold half2
  have : Nat.blt i n = true := by rw [Nat.blt_eq]; exact hi
  rw [this]; rfl
theorem half2_all {G Z : Nat → List Value} {p : Value → Bool} (hg : ∀ i, (G i).all p = true) (hz : ∀ i, (Z i).all p = true) (k i : Nat) : (half2 G Z k i).all p = true := by
  unfold half2; cases Nat.blt i k; exact hz i; exact hg i
/-- A store. -/
def stF (o : Option AHeap) : Option (Value × AHeap) :=
  match o with
  | some σ => some (undef, σ)
  | none => none
theorem stF_ok {o : Option AHeap} {σ : AHeap} (h : o = some σ) : stF o = some (undef, σ) := by rw [h]; rfl

/-! ### Rounds under other names -/
def PlainL : List AObj → Prop
  | [] => True
  | o :: l => plainO o ∧ PlainL l
theorem PlainL.get : ∀ {l : List AObj}, PlainL l → ∀ (b : Nat) (o : AObj), l[b]? = some o → plainO o
  | [], _, b, o, h => by simp at h
  | x :: l, hp, 0, o, h => by simp at h; rw [← h]; exact hp.1
  | x :: l, hp, b + 1, o, h => by simp at h; exact PlainL.get hp.2 b o h
def roundQ (C : Cfg) (X : List Nat) (n : Nat) (body : Code) (orc : Orc) (ks : List Nat) (mask : List Bool) (fr : List Value) (σ : AHeap) : Option (List Prop × Exit × List Value × AHeap × Nat) :=
  match DO C X n body 0 orc fr σ with
  | some (ps, e, _, _, fr1, σ1) => bif ks.all (fun k => Nat.blt k σ1.length) then some (ps, e, maskF mask fr1, pickH ks σ1, σ1.length) else none
  | none => none
theorem Sim.of_roundQ {C : Cfg} (hC : C.Ok) {X : List Nat} {n : Nat} {body : Code} {orc : Orc} {ks : List Nat} {mask : List Bool} {fr fr' : List Value} {σ σ' σ0 : AHeap} {ps : List Prop} {e : Exit} {L : Nat} (n0 : Nat) (hok : codeOkX C X body = true)
    (h : roundQ C X n body orc ks mask fr σ = some (ps, e, fr'.map (renV (rOf ks L) 3), σ', L)) (hp : All ps) (hst : Stood C.ex σ0) (hn : Nat.ble n0 σ.length = true) (hn0 : ks.take n0 = List.range n0) (hk0 : ks.take σ0.length = List.range σ0.length) (hnd : ks.Nodup)
    (hfix : σ'.take σ0.length = σ0) (hpl : PlainL (σ'.drop σ0.length)) : Sim C n0 body fr σ e fr' σ' := by
  unfold roundQ at h
  split at h
  · rename_i ps1 e1 t1 o1 fr1 σ1 hd
    cases hb : (ks.all fun k => Nat.blt k σ1.length)
    · rw [hb] at h; cases h
    · rw [hb] at h
      simp only [cond_true, Option.some.injEq, Prod.mk.injEq] at h
      obtain ⟨h1, h2, h3, h4, h5⟩ := h
      subst h1 h2 h5
      have hn' := Nat.le_of_ble_eq_true hn
      exact Sim.keepR ((DO_sound hC X n _ _ _ _ _ hok hd hp).1.le hn') hst hn' ks mask hn0 hk0 hb hnd h4 hfix (fun b o h1 h2 => PlainL.get hpl (b - σ0.length) o (by rw [List.getElem?_drop, show σ0.length + (b - σ0.length) = b by omega]; exact h2)) h3
  · cases h
end Go.Lk
end
