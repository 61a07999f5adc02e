import Derived.Test.YtmomainjlncogaaLkLF
section
/- append, make and stores on rows that are told by functions. -/
namespace Go.Lk
set_option linter.unusedSimpArgs false
set_option linter.unusedVariables false

/-! ### append -/
/-- What the types must be: elements of z cells, not too many bytes. -/
def appOk (P : Program) (t t2 : TypeId) (z : Nat) : Bool :=
  match P.underlying t, P.underlying t2 with
  | some (.slice e), some d2 =>
    !isIntD d2 && (match P.info? e with
      | some inf => inf.size == z && Nat.ble inf.bytes 1048576 && (match tZero P e with | some zz => zz.cells.size == inf.size | none => false)
      | none => false)
  | _, _ => false

/-- The cells of a slice that a function tells. -/
theorem cells_row {σ : AHeap} {b z n m cap : Nat} {F : Nat → List Value} {rw' : Bool} {opn : Option Nat} (hσ : σ[b]? = some (.row (rowOf F m) rw' opn)) (hf : ∀ i, (F i).length = z) (hn : n ≤ m) (z' : Nat) :
    aCells σ z n (.slice (some ⟨b, 0, some z'⟩) n cap) = some (rowOf F n) := by
  have hl := rowOf_len hf m
  have hln := rowOf_len hf n
  have : n * z ≤ m * z := Nat.mul_le_mul_right z hn
  simp only [aCells, hσ]
  by_cases h0 : n * z = 0
  · rw [if_pos h0]
    congr 1
    exact (List.length_eq_zero_iff.1 (by rw [hln]; exact h0)).symm
  · rw [if_neg h0, if_pos ⟨Nat.le_refl _, by omega⟩, List.drop_zero, rowOf_take hf hn]

theorem append_grow {P : Program} {σ : AHeap} {t t2 : TypeId} {ts : List TypeId} {rest : List Value} {b N cap z : Nat} {F : Nat → List Value} {x : Value} {rw' : Bool} {opn : Option Nat}
    (hok : appOk P t t2 z = true) (hσ : σ[b]? = some (.row (rowOf F N) rw' opn)) (hrw : rw' = true ∨ opn = none) (hx : aCells σ z 1 x = some (F N)) (hlx : sLen x = some 1)
    (hf : ∀ i, (F i).length = z) (hone : (F N).all one = true) (hN : N < 67108864) (hcap : cap = N) :
    aAppend P σ (t :: t2 :: ts) (.slice (some ⟨b, 0, some z⟩) N cap :: x :: rest) = some (.slice (some ⟨σ.length, 0, some z⟩) (N + 1) (N + 1), kill σ b ++ [.row (rowOf F (N + 1)) true (some z)]) := by
  subst hcap
  unfold appOk at hok
  unfold aAppend
  cases h1 : P.underlying t with
  | none => rw [h1] at hok; cases hok
  | some d1 =>
  rw [h1] at hok
  cases h2 : P.underlying t2 with
  | none => rw [h2] at hok; cases d1 <;> cases hok
  | some d2 =>
  rw [h2] at hok
  cases d1 with
  | slice e =>
    simp only [Bool.and_eq_true, Bool.not_eq_true'] at hok
    obtain ⟨hi, hok⟩ := hok
    cases h3 : P.info? e with
    | none => rw [h3] at hok; cases hok
    | some inf =>
      rw [h3] at hok
      simp only [Bool.and_eq_true, beq_iff_eq] at hok
      obtain ⟨⟨hsz, hby⟩, hzz⟩ := hok
      have hby' := Nat.le_of_ble_eq_true hby
      simp only [h1, h2, h3, hlx, hi, cond_false, hsz, hx]
      rw [if_neg (by omega)]
      have hold : aCells σ z cap (.slice (some ⟨b, 0, some z⟩) cap cap) = some (rowOf F cap) := cells_row hσ hf (Nat.le_refl _) z
      rw [hold]
      simp only
      have hb2 : (cap + 1) * inf.bytes ≤ 70368744177664 := by
        have h4 : (cap + 1) * inf.bytes ≤ 67108864 * 1048576 := Nat.mul_le_mul (by omega) hby'
        omega
      rw [if_pos ⟨hb2, hby', by omega, hone⟩]
      cases h5 : tZero P e with
      | none => rw [h5] at hzz; cases hzz
      | some zz =>
        rw [h5] at hzz
        have hzz : zz.cells.size = inf.size := by simpa using hzz
        have hne : ¬ zz.cells.size ≠ z := by omega
        simp only [h5, hne, if_false, hσ, true_and, Nat.le_refl, if_true, hrw]
        rw [rowOf_succ]
  | _ => cases hok

/-- The first element. -/
theorem append_first {P : Program} {σ : AHeap} {t t2 : TypeId} {ts : List TypeId} {rest : List Value} {z : Nat} {F : Nat → List Value} {x : Value} {n : Nat}
    (hok : appOk P t t2 z = true) (hx : aCells σ z n x = some (rowOf F n)) (hlx : sLen x = some n) (hone : (rowOf F n).all one = true) (hn : 0 < n) (hN : n < 67108864) :
    aAppend P σ (t :: t2 :: ts) (.slice none 0 0 :: x :: rest) = some (.slice (some ⟨σ.length, 0, some z⟩) n n, σ ++ [.row (rowOf F n) true (some z)]) := by
  unfold appOk at hok
  unfold aAppend
  cases h1 : P.underlying t with
  | none => rw [h1] at hok; cases hok
  | some d1 =>
  rw [h1] at hok
  cases h2 : P.underlying t2 with
  | none => rw [h2] at hok; cases d1 <;> cases hok
  | some d2 =>
  rw [h2] at hok
  cases d1 with
  | slice e =>
    simp only [Bool.and_eq_true, Bool.not_eq_true'] at hok
    obtain ⟨hi, hok⟩ := hok
    cases h3 : P.info? e with
    | none => rw [h3] at hok; cases hok
    | some inf =>
      rw [h3] at hok
      simp only [Bool.and_eq_true, beq_iff_eq] at hok
      obtain ⟨⟨hsz, hby⟩, hzz⟩ := hok
      have hby' := Nat.le_of_ble_eq_true hby
      simp only [h1, h2, h3, hlx, hi, cond_false, hsz, hx, Nat.zero_add]
      rw [if_neg (by omega)]
      have hold : aCells σ z 0 (.slice none 0 0) = some [] := by
        unfold aCells; simp
      rw [hold]
      simp only
      have hb2 : n * inf.bytes ≤ 70368744177664 := by
        have h4 : n * inf.bytes ≤ 67108864 * 1048576 := Nat.mul_le_mul (by omega) hby'
        omega
      rw [if_pos ⟨hb2, hby', by omega, hone⟩]
      cases h5 : tZero P e with
      | none => rw [h5] at hzz; cases hzz
      | some zz =>
        rw [h5] at hzz
        have hzz : zz.cells.size = inf.size := by simpa using hzz
        have hne : ¬ zz.cells.size ≠ z := by omega
        simp only [h5, hne, if_false, List.nil_append]
  | _ => cases hok

/-! ### make -/
def mkOk (P : Program) (t : TypeId) (zs : List Value) : Bool :=
  match P.underlying t with
  | some (.slice e) =>
    match P.info? e with
    | some inf => Nat.ble inf.bytes 1048576 && inf.size == zs.length && !(inf.size == 0)
    | none => false
  | _ => false
theorem make_row {P : Program} {σ : AHeap} {t : TypeId} {zs : List Value} {k k' : IntKind} {l N : Nat} (hok : mkOk P t zs = true) (hz : (match P.underlying t with | some (.slice e) => (tZero P e).map (fun z => z.cells.toList) | _ => none) = some zs) (hone : zs.all one = true) (hl : l ≤ N) (hN : N < 67108864) :
    aMake P σ t (.int k (iN l)) (.int k' (iN N)) = some (.slice (some ⟨σ.length, 0, some zs.length⟩) l N, σ ++ [.row (rowOf (fun _ => zs) N) true none]) := by
  unfold mkOk at hok
  unfold aMake
  cases h1 : P.underlying t with
  | none => rw [h1] at hok; cases hok
  | some d1 =>
  rw [h1] at hok hz
  cases d1 with
  | slice e =>
    simp only at hok hz
    cases h3 : P.info? e with
    | none => rw [h3] at hok; cases hok
    | some inf =>
      rw [h3] at hok
      simp only [Bool.and_eq_true, beq_iff_eq, Bool.not_eq_true', beq_eq_false_iff_ne] at hok
      obtain ⟨⟨hby, hsz⟩, h0⟩ := hok
      have hby' := Nat.le_of_ble_eq_true hby
      simp only [h1, h3]
      have hb2 : (N : Int) * inf.bytes ≤ 281474976710656 := by
        have h4 : N * inf.bytes ≤ 67108864 * 1048576 := Nat.mul_le_mul (by omega) hby'
        have : ((N * inf.bytes : Nat) : Int) ≤ ((67108864 * 1048576 : Nat) : Int) := Int.ofNat_le.2 h4
        rw [Int.natCast_mul] at this
        omega
      have hcond : 0 ≤ iN l ∧ iN l ≤ iN N ∧ iN N * inf.bytes ≤ 281474976710656 ∧ iN N ≤ 281474976710656 := by
        rw [iN_eq, iN_eq]; exact ⟨by omega, by omega, hb2, by omega⟩
      have e1 : (iN l).toNat = l := rfl
      have e2 : (iN N).toNat = N := rfl
      rw [if_pos hcond]
      cases h5 : tZero P e with
      | none => rw [h5] at hz; cases hz
      | some zz =>
        rw [h5] at hz
        have hz : zz.cells.toList = zs := by simpa using hz
        have hzl : zz.cells.size = inf.size := by rw [hsz, ← hz]; simp
        simp only [h5, hz, e1, e2]
        rw [if_pos ⟨hzl, h0, hone⟩, hsz, zrow_rowOf zs (by intro h; rw [h] at hsz; exact h0 (by simpa using hsz)) N]
  | _ => cases hok

/-! ### stores -/
theorem store_row {P : Program} {σ : AHeap} {t : TypeId} {v : Value} {b z N k off : Nat} {f g : Nat → List Value} {opn : Option Nat} (hσ : σ[b]? = some (.row (rowOf f N) true opn)) (ht : tSize P t = some z) (hf : ∀ i, (f i).length = z) (hg : ∀ i, (g i).length = z)
    (hv : v.cells.toList = g k) (hone : (g k).all one = true) (ho : off = k * z) (hk : k < N) (hne : ∀ i, i ≠ k → g i = f i) :
    aStore P σ t (.pointer (some ⟨b, off, none⟩)) v = some (σ.set b (.row (rowOf g N) true opn)) := by
  unfold aStore
  simp only [hσ, ht, hv]
  have hl := rowOf_len hf N
  have h1 : k * z + z ≤ N * z := by
    have := Nat.mul_le_mul_right z (show k + 1 ≤ N from hk)
    rw [Nat.succ_mul] at this; exact this
  rw [if_pos ⟨hg k, by rw [hg k]; omega, hone⟩, ho, rowOf_splice hf hg hk hne]
/-- A row of which the first k elements are written. -/
def half2 (G Z : Nat → List Value) (k : Nat) : Nat → List Value := fun i => bif Nat.blt i k then G i else Z i
theorem half2_len {G Z : Nat → List Value} {s : Nat} (hg : ∀ i, (G i).length = s) (hz : ∀ i, (Z i).length = s) (k i : Nat) : (half2 G Z k i).length = s := by
  unfold half2; cases Nat.blt i k; exact hz i; exact hg i
theorem half2_at (G Z : Nat → List Value) (k : Nat) : half2 G Z (k + 1) k = G k := by
  unfold half2
  have : Nat.blt k (k + 1) = true := by rw [Nat.blt_eq]; omega
  rw [this]; rfl
theorem half2_ne (G Z : Nat → List Value) (k i : Nat) (h : i ≠ k) : half2 G Z (k + 1) i = half2 G Z k i := by
  unfold half2
  have : Nat.blt i (k + 1) = Nat.blt i k := by
    rw [Bool.eq_iff_iff, Nat.blt_eq, Nat.blt_eq]; omega
  rw [this]
theorem half2_zero (G Z : Nat → List Value) (n : Nat) : rowOf (half2 G Z 0) n = rowOf Z n := rowOf_congr fun i _ => by
  unfold half2
  have : Nat.blt i 0 = false := by cases h : Nat.blt i 0; rfl; rw [Nat.blt_eq] at h; omega
  rw [this]; rfl
theorem half2_full (G Z : Nat → List Value) (n : Nat) : rowOf (half2 G Z n) n = rowOf G n := rowOf_congr fun i hi => by
  unfold half2
  have : Nat.blt i n = true := by rw [Nat.blt_eq]; exact hi
  rw [this]; rfl
theorem half2_all {G Z : Nat → List Value} {p : Value → Bool} (hg : ∀ i, (G i).all p = true) (hz : ∀ i, (Z i).all p = true) (k i : Nat) : (half2 G Z k i).all p = true := by
  unfold half2; cases Nat.blt i k; exact hz i; exact hg i
/-- A store. -/
def stF (o : Option AHeap) : Option (Value × AHeap) :=
  match o with
  | some σ => some (undef, σ)
  | none => none
theorem stF_ok {o : Option AHeap} {σ : AHeap} (h : o = some σ) : stF o = some (undef, σ) := by rw [h]; rfl

/-! ### Rounds under other names -/
def PlainL : List AObj → Prop
  | [] => True
  | o :: l => plainO o ∧ PlainL l
theorem PlainL.get : ∀ {l : List AObj}, PlainL l → ∀ (b : Nat) (o : AObj), l[b]? = some o → plainO o
  | [], _, b, o, h => by simp at h
  | x :: l, hp, 0, o, h => by simp at h; rw [← h]; exact hp.1
  | x :: l, hp, b + 1, o, h => by simp at h; exact PlainL.get hp.2 b o h
def roundQ (C : Cfg) (X : List Nat) (n : Nat) (body : Code) (orc : Orc) (ks : List Nat) (mask : List Bool) (fr : List Value) (σ : AHeap) : Option (List Prop × Exit × List Value × AHeap × Nat) :=
  match DO C X n body 0 orc fr σ with
  | some (ps, e, _, _, fr1, σ1) => bif ks.all (fun k => Nat.blt k σ1.length) then some (ps, e, maskF mask fr1, pickH ks σ1, σ1.length) else none
  | none => none
theorem Sim.of_roundQ {C : Cfg} (hC : C.Ok) {X : List Nat} {n : Nat} {body : Code} {orc : Orc} {ks : List Nat} {mask : List Bool} {fr fr' : List Value} {σ σ' σ0 : AHeap} {ps : List Prop} {e : Exit} {L : Nat} (n0 : Nat) (hok : codeOkX C X body = true)
    (h : roundQ C X n body orc ks mask fr σ = some (ps, e, fr'.map (renV (rOf ks L) 3), σ', L)) (hp : All ps) (hst : Stood C.ex σ0) (hn : Nat.ble n0 σ.length = true) (hn0 : ks.take n0 = List.range n0) (hk0 : ks.take σ0.length = List.range σ0.length) (hnd : ks.Nodup)
    (hfix : σ'.take σ0.length = σ0) (hpl : PlainL (σ'.drop σ0.length)) : Sim C n0 body fr σ e fr' σ' := by
  unfold roundQ at h
  split at h
  · rename_i ps1 e1 t1 o1 fr1 σ1 hd
    cases hb : (ks.all fun k => Nat.blt k σ1.length)
    · rw [hb] at h; cases h
    · rw [hb] at h
      simp only [cond_true, Option.some.injEq, Prod.mk.injEq] at h
      obtain ⟨h1, h2, h3, h4, h5⟩ := h
      subst h1 h2 h5
      have hn' := Nat.le_of_ble_eq_true hn
      exact Sim.keepR ((DO_sound hC X n _ _ _ _ _ hok hd hp).1.le hn') hst hn' ks mask hn0 hk0 hb hnd h4 hfix (fun b o h1 h2 => PlainL.get hpl (b - σ0.length) o (by rw [List.getElem?_drop, show σ0.length + (b - σ0.length) = b by omega]; exact h2)) h3
  · cases h
end Go.Lk
end

section
/- append within a slice's room; rows of rows. -/
namespace Go.Lk
set_option linter.unusedSimpArgs false
set_option linter.unusedVariables false
theorem append_room {P : Program} {σ : AHeap} {t t2 : TypeId} {ts : List TypeId} {rest : List Value} {b k N z : Nat} {F Z : Nat → List Value} {x : Value} {opn : Option Nat}
    (hok : appOk P t t2 z = true) (hσ : σ[b]? = some (.row (rowOf (half2 F Z k) N) true opn)) (hx : aCells σ z 1 x = some (F k)) (hlx : sLen x = some 1)
    (hf : ∀ i, (F i).length = z) (hg : ∀ i, (Z i).length = z) (hone : (F k).all one = true) (hk : k < N) (hz : 0 < z) :
    aAppend P σ (t :: t2 :: ts) (.slice (some ⟨b, 0, some z⟩) k N :: x :: rest) = some (.slice (some ⟨b, 0, some z⟩) (k + 1) N, σ.set b (.row (rowOf (half2 F Z (k + 1)) N) true opn)) := by
  unfold appOk at hok
  unfold aAppend
  cases h1 : P.underlying t with
  | none => rw [h1] at hok; cases hok
  | some d1 =>
  rw [h1] at hok
  cases h2 : P.underlying t2 with
  | none => rw [h2] at hok; cases d1 <;> cases hok
  | some d2 =>
  rw [h2] at hok
  cases d1 with
  | slice e =>
    simp only [Bool.and_eq_true, Bool.not_eq_true'] at hok
    obtain ⟨hi, hok⟩ := hok
    cases h3 : P.info? e with
    | none => rw [h3] at hok; cases hok
    | some inf =>
      rw [h3] at hok
      simp only [Bool.and_eq_true, beq_iff_eq] at hok
      obtain ⟨⟨hsz, hby⟩, hzz⟩ := hok
      simp only [h1, h2, h3, hlx, hi, cond_false, hsz, hx]
      rw [if_pos (show k + 1 ≤ N from hk)]
      have hl := rowOf_len (half2_len hf hg k) N
      have h4 : k * z + z ≤ N * z := by
        have := Nat.mul_le_mul_right z (show k + 1 ≤ N from hk)
        rw [Nat.succ_mul] at this; exact this
      have hfk := hf k
      have hp : aPut σ b (0 + k * z) (F k) = some (σ.set b (.row (rowOf (half2 F Z (k + 1)) N) true opn)) := by
        unfold aPut
        have e := rowOf_splice (half2_len hf hg k) (half2_len hf hg (k + 1)) hk (fun i h => half2_ne F Z k i h)
        rw [half2_at] at e
        simp only [hσ, Nat.zero_add]
        rw [if_neg (by intro h; rw [h] at hfk; simp at hfk; omega), if_pos ⟨by omega, hone⟩, e]
      simp only [hp]
  | _ => cases hok
/-- Element i of the row of rows. -/
def nestR (n : Nat) (G : Nat → Nat → List Value) : Nat → List Value := fun i => G (i / n) (i % n)
theorem nest_at {n : Nat} (G : Nat → Nat → List Value) {i k : Nat} (hk : k < n) : nestR n G (i * n + k) = G i k := by
  unfold nestR
  rw [Nat.mul_comm, Nat.mul_add_div (by omega), Nat.mul_add_mod, Nat.div_eq_of_lt hk, Nat.mod_eq_of_lt hk, Nat.add_zero]
theorem nest_mul {n : Nat} (G : Nat → Nat → List Value) {i k : Nat} (hk : k < n) : nestR n G (n * i + k) = G i k := by
  rw [Nat.mul_comm]; exact nest_at G hk
theorem nest_hx {σ : AHeap} {z m i j : Nat} {x : Value} {G : Nat → Nat → List Value} (hj : j < m) (h : aCells σ z 1 x = some (G i j)) : aCells σ z 1 x = some (nestR m G (m * i + j)) := by
  rw [nest_mul G hj]; exact h
theorem nest_one {m : Nat} (G : Nat → Nat → List Value) (hm : 0 < m) : rowOf (nestR m G) 1 = G 0 0 := by
  have h := nest_mul G (i := 0) hm
  rw [Nat.mul_zero, Nat.zero_add] at h
  rw [← h]
  simp [rowOf]
theorem nest_len {n : Nat} {G : Nat → Nat → List Value} {s : Nat} (h : ∀ i k, (G i k).length = s) (i : Nat) : (nestR n G i).length = s := h _ _
theorem nest_all {n : Nat} {G : Nat → Nat → List Value} {p : Value → Bool} (h : ∀ i k, (G i k).all p = true) (i : Nat) : (nestR n G i).all p = true := h _ _
theorem half2_top (G Z : Nat → List Value) {n i : Nat} (h : n ≤ i) : half2 G Z n i = Z i := by
  unfold half2
  have : Nat.blt i n = false := by cases h' : Nat.blt i n; rfl; rw [Nat.blt_eq] at h'; omega
  rw [this]; rfl
theorem load_fld {P : Program} {σ : AHeap} {t : TypeId} {b off k n s j : Nat} {f : Nat → List Value} {rw' : Bool} {opn : Option Nat} {v : Value} (hσ : σ[b]? = some (.row (rowOf f n) rw' opn)) (hd : (P.underlying t).map isAggD = some false)
    (hf : ∀ i, (f i).length = s) (ho : off = k * s + j) (hj : j < s) (hk : k < n) (hv : (f k)[j]? = some v) : aLoad P σ t (.pointer (some ⟨b, off, none⟩)) = some v := by
  cases hu : P.underlying t with
  | none => rw [hu] at hd; cases hd
  | some d =>
  rw [hu] at hd
  have hd : isAggD d = false := by simpa using hd
  unfold aLoad
  simp only [hσ, hu, hd, cond_false]
  have h := rowOf_at hf hk
  have h2 := congrArg (fun l => l[j]?) h
  simp only [List.getElem?_take, List.getElem?_drop, hj, if_true] at h2
  rw [ho, h2, hv]
theorem append_many {P : Program} {σ : AHeap} {t t2 : TypeId} {ts : List TypeId} {rest xs : List Value} {b N n z : Nat} {F F' : Nat → List Value} {x : Value} {rw' : Bool} {opn : Option Nat}
    (hok : appOk P t t2 z = true) (hσ : σ[b]? = some (.row (rowOf F N) rw' opn)) (hrw : rw' = true ∨ opn = none) (hx : aCells σ z n x = some xs) (hlx : sLen x = some n) (hF : rowOf F N ++ xs = rowOf F' (N + n))
    (hf : ∀ i, (F i).length = z) (hone : xs.all one = true) (hn : 0 < n) (hN : N + n < 67108864) :
    aAppend P σ (t :: t2 :: ts) (.slice (some ⟨b, 0, some z⟩) N N :: x :: rest) = some (.slice (some ⟨σ.length, 0, some z⟩) (N + n) (N + n), kill σ b ++ [.row (rowOf F' (N + n)) true (some z)]) := by
  unfold appOk at hok
  unfold aAppend
  cases h1 : P.underlying t with
  | none => rw [h1] at hok; cases hok
  | some d1 =>
  rw [h1] at hok
  cases h2 : P.underlying t2 with
  | none => rw [h2] at hok; cases d1 <;> cases hok
  | some d2 =>
  rw [h2] at hok
  cases d1 with
  | slice e =>
    simp only [Bool.and_eq_true, Bool.not_eq_true'] at hok
    obtain ⟨hi, hok⟩ := hok
    cases h3 : P.info? e with
    | none => rw [h3] at hok; cases hok
    | some inf =>
      rw [h3] at hok
      simp only [Bool.and_eq_true, beq_iff_eq] at hok
      obtain ⟨⟨hsz, hby⟩, hzz⟩ := hok
      have hby' := Nat.le_of_ble_eq_true hby
      simp only [h1, h2, h3, hlx, hi, cond_false, hsz, hx]
      rw [if_neg (by omega)]
      have hold : aCells σ z N (.slice (some ⟨b, 0, some z⟩) N N) = some (rowOf F N) := cells_row hσ hf (Nat.le_refl _) z
      rw [hold]
      simp only
      have hb2 : (N + n) * inf.bytes ≤ 70368744177664 := by
        have h4 : (N + n) * inf.bytes ≤ 67108864 * 1048576 := Nat.mul_le_mul (by omega) hby'
        omega
      rw [if_pos ⟨hb2, hby', by omega, hone⟩]
      cases h5 : tZero P e with
      | none => rw [h5] at hzz; cases hzz
      | some zz =>
        rw [h5] at hzz
        have hzz : zz.cells.size = inf.size := by simpa using hzz
        have hne : ¬ zz.cells.size ≠ z := by omega
        simp only [h5, hne, if_false, hσ, true_and, Nat.le_refl, if_true, hrw]
        rw [hF]
  | _ => cases hok
theorem qF_eq {k : IntKind} {z c b : Int} {σ : AHeap} (h : z = c) (hb : b ≠ 0) : qF (.int k z) σ b = some (.int k c, σ) := by rw [h]; exact qF_ok _ _ hb
theorem bnd_no (d y : Nat) : bnd none d y = some d := rfl
theorem bnd_int {k : IntKind} {i d y : Nat} (h : i ≤ y) : bnd (some (.int k (iN i))) d y = some i := by
  unfold bnd
  simp only
  rw [if_pos ⟨by rw [iN_eq]; omega, by rw [iN_eq]; omega⟩]
  rfl
theorem slice_op {P : Program} {t e : TypeId} {z b o len cap l h off' n' c' : Nat} {low high : Option Value} (hu : P.underlying t = some (.slice e)) (hz : tSize P e = some z) (hl : bnd low 0 h = some l) (hh : bnd high len cap = some h) (hc : h ≤ cap)
    (ho : off' = o + l * z) (hn : n' = h - l) (hcap : c' = cap - l) :
    aSlice P t (.slice (some ⟨b, o, some z⟩) len cap) low high none = some (.slice (some ⟨b, off', some z⟩) n' c') := by
  unfold aSlice
  simp only [hu, hz]
  unfold bnds
  have h1 : bnd none cap cap = some cap := rfl
  simp only [h1, Option.isSome_none, Bool.false_and, Bool.false_eq_true, if_false, hh, hl]
  rw [if_pos ⟨trivial, hc⟩, ho, hn, hcap]
end Go.Lk
end
