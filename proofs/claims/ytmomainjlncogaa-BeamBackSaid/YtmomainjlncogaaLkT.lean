/- The pure operations do what the abstract ones say. -/
import Derived.Test.YtmomainjlncogaaLkS
namespace Go.Lk
set_option linter.unusedSimpArgs false
set_option linter.unusedVariables false

variable {ex : Bool} {μ : List (Option Ent)} {P : Program}

theorem run_sizeOf' {t : TypeId} {n : Nat} (h : tSize P t = some n) (w : World) : (sizeOf t).run P w = .ok n w := by
  unfold tSize at h
  cases hi : P.info? t with
  | none => rw [hi] at h; cases h
  | some i => rw [hi] at h; cases h; simp [sizeOf, typeInfo, hi]

theorem run_isAgg' {t : TypeId} {d : TypeDesc} (h : P.underlying t = some d) (w : World) : (isAgg t).run P w = .ok (isAggD d) w := by
  cases d <;> simp [isAgg, run_underlying h, isAggD]

theorem part_sound {t : TypeId} {cs cs' : Array Value} {off : Nat} {v : Value} (h : aPart P t cs.toList off = some v) (hc : VRs ex μ cs.toList cs'.toList) :
    okv P ex μ (part t cs' off) v := by
  unfold aPart at h
  split at h
  · rename_i d hd
    cases ha : isAggD d <;> rw [ha] at h <;> simp only [cond_true, cond_false] at h
    · obtain ⟨y, hy, hv⟩ := hc.2 _ _ h
      rw [Array.getElem?_toList] at hy
      refine .of (fun w => ?_) hv
      simp [part, run_isAgg' hd, ha, hy]
    · split at h
      · rename_i n hn
        cases h
        refine .of (v' := .agg (cs'.extract off (off + n))) (fun w => ?_) ?_
        · simp [part, run_isAgg' hd, ha, run_sizeOf' hn]
        · apply VRs.toAgg
          have := (hc.drop off).take n
          simpa [Array.toList_extract, List.extract_eq_take_drop] using this
      · cases h
  · cases h

theorem indexAddr_sound {t : TypeId} {x i x' i' v : Value} (h : aIndexAddr P t x i = some v) (hx : VR ex μ x x') (hi : VR ex μ i i') :
    okv P ex μ (Instr.indexAt t x' i') v := by
  unfold aIndexAddr at h
  split at h
  · rename_i hu
    rw [hi.int_of]
    split at h
    · rename_i s hs
      split at h
      · rename_i hb
        cases h
        cases hx with
        | slice hm hc =>
          refine .of (fun w => ?_) (.ptr hm)
          simp [Instr.indexAt, asIntOf, run_underlying hu, hb.1, hb.2, run_sizeOf' hs, add_off, Nat.add_assoc]
        | sempty hm a => omega
      · cases h
    · cases h
  · rename_i hu
    rw [hi.int_of]
    split at h
    · rename_i s hs
      split at h
      · rename_i hb
        cases h
        cases hx with
        | ptr hm =>
          refine .of (fun w => ?_) (.ptr hm)
          simp [Instr.indexAt, asIntOf, Instr.sureAddr, run_underlying hu, hb.1, hb.2, run_sizeOf' hs, add_off, Nat.add_assoc]
      · cases h
    · cases h
  · cases h

theorem fieldAddr_sound {s : TypeId} {x x' v : Value} {f : Nat} (h : aFieldAddr P s x f = some v) (hx : VR ex μ x x') :
    okv P ex μ (Instr.fieldAt s x' f) v := by
  unfold aFieldAddr at h
  split at h
  · rename_i hu
    split at h
    · rename_i fl hf
      split at h
      · rename_i n hn
        split at h
        · cases h
        · rename_i hz
          cases h
          cases hx with
          | ptr hm =>
            refine .of (fun w => ?_) (.ptr hm)
            simp [Instr.fieldAt, Instr.sureAddr, fieldPlace, run_underlying hu, hf, run_sizeOf' hn, hz, add_off, Nat.add_assoc]
      · cases h
    · cases h
  · cases h

theorem field_sound {t : TypeId} {x x' v : Value} {f : Nat} (h : aField P t x f = some v) (hx : VR ex μ x x') :
    okv P ex μ (Instr.field t x' f) v := by
  unfold aField at h
  split at h
  · rename_i hu
    split at h
    · rename_i fl hf
      obtain ⟨cs', rfl, vc⟩ := hx.agg_iff
      intro w
      obtain ⟨n, v', h1, h2⟩ := part_sound h vc w
      refine ⟨n, v', ?_, h2⟩
      simp [Instr.field, run_underlying hu, hf, asAgg, h1]
    · cases h
  · cases h

theorem index_sound {t : TypeId} {x i x' i' v : Value} (h : aIndex P t x i = some v) (hx : VR ex μ x x') (hi : VR ex μ i i') :
    okv P ex μ (Instr.index t x' i') v := by
  unfold aIndex at h
  split at h
  · rename_i hu
    rw [hi.int_of]
    split at h
    · rename_i s hs
      split at h
      · rename_i hb
        obtain ⟨cs', rfl, vc⟩ := hx.agg_iff
        intro w
        obtain ⟨n, v', h1, h2⟩ := part_sound h vc w
        refine ⟨n, v', ?_, h2⟩
        simp [Instr.index, asIntOf, run_underlying hu, hb.1, hb.2, run_sizeOf' hs, h1]
      · cases h
    · cases h
  · rename_i hu
    rw [hi.int_of, hx.string_of]
    split at h
    · rename_i h0
      split at h
      · rename_i b hb
        cases h
        refine .of (fun w => ?_) (.int _ _)
        simp [Instr.index, asIntOf, run_underlying hu, h0, hb]
      · cases h
    · cases h
  · cases h

/-- Options, one by one. -/
def OR (ex : Bool) (μ : List (Option Ent)) : Option Value → Option Value → Prop
  | none, none => True
  | some a, some b => VR ex μ a b
  | _, _ => False

theorem bnd_some {v v' : Value} {d y n : Nat} (h : bnd (some v) d y = some n) (hv : VR ex μ v v') {y' : Nat} (hy : y ≤ y') (code : BoundsCode) (w : World) :
    (Instr.sliceBound v' y' code).run P w = .ok n w ∧ n ≤ y := by
  unfold bnd at h
  split at h
  · rename_i e; cases e
  · rename_i k i e
    cases e
    split at h
    · rename_i hb
      cases h
      rw [hv.int_of]
      refine ⟨?_, by omega⟩
      have : 0 ≤ i ∧ i ≤ (y' : Int) := by omega
      simp [Instr.sliceBound, asIntOf, this]
    · cases h
  · cases h

theorem bnds_sound {len cap cap' : Nat} {lo hi mx lo' hi' mx' : Option Value} {l h m : Nat} (hb : bnds len cap lo hi mx = some (l, h, m)) (hl : OR ex μ lo lo') (hh : OR ex μ hi hi')
    (hm : OR ex μ mx mx') (hc : cap ≤ cap') (isS : Bool) (w : World) :
    ∃ m', (Instr.sliceBounds isS len cap' lo' hi' mx').run P w = .ok (l, h, m') w ∧ ((mx.isSome = true ∧ m' = m ∧ m ≤ cap) ∨ (mx = none ∧ m = cap ∧ m' = cap')) ∧ l ≤ h ∧ (hi.isSome = true → h ≤ m) ∧ (hi = none → h = len) := by
  unfold bnds at hb
  cases mx with
  | none =>
    cases mx' with
    | some _ => exact hm.elim
    | none =>
      simp only [bnd, Option.isSome_none, Bool.false_and, Bool.false_eq_true, if_false] at hb
      cases hi with
      | none =>
        cases hi' with
        | some _ => exact hh.elim
        | none =>
          simp only at hb
          cases lo with
          | none =>
            cases lo' with
            | some _ => exact hl.elim
            | none =>
              simp only [bnd] at hb
              cases hb
              exact ⟨cap', by simp [Instr.sliceBounds], .inr ⟨rfl, rfl, rfl⟩, Nat.zero_le _, by simp, by simp⟩
          | some v =>
            cases lo' with
            | none => exact hl.elim
            | some v' =>
              split at hb
              · cases hb
              · rename_i l' hl'
                cases hb
                obtain ⟨r1, r2⟩ := bnd_some (P := P) hl' hl (Nat.le_refl _) .sliceB w
                exact ⟨cap', by simp [Instr.sliceBounds, r1], .inr ⟨rfl, rfl, rfl⟩, r2, by simp, by simp⟩
      | some u =>
        cases hi' with
        | none => exact hh.elim
        | some u' =>
          split at hb
          · cases hb
          · rename_i h' hh'
            obtain ⟨q1, q2⟩ := bnd_some (P := P) hh' hh hc (if isS then .sliceAcap else .sliceAlen) w
            cases lo with
            | none =>
              cases lo' with
              | some _ => exact hl.elim
              | none =>
                simp only [bnd] at hb
                cases hb
                exact ⟨cap', by simp [Instr.sliceBounds, q1], .inr ⟨rfl, rfl, rfl⟩, Nat.zero_le _, fun _ => q2, by simp⟩
            | some v =>
              cases lo' with
              | none => exact hl.elim
              | some v' =>
                split at hb
                · cases hb
                · rename_i l' hl'
                  cases hb
                  obtain ⟨r1, r2⟩ := bnd_some (P := P) hl' hl (Nat.le_refl _) .sliceB w
                  exact ⟨cap', by simp [Instr.sliceBounds, q1, r1], .inr ⟨rfl, rfl, rfl⟩, r2, fun _ => q2, by simp⟩
  | some z =>
    cases mx' with
    | none => exact hm.elim
    | some z' =>
      split at hb
      · cases hb
      · rename_i m1 hm1
        obtain ⟨p1, p2⟩ := bnd_some (P := P) hm1 hm hc (if isS then .slice3Acap else .slice3Alen) w
        cases hi with
        | none => simp at hb
        | some u =>
          cases hi' with
          | none => exact hh.elim
          | some u' =>
            simp only [Option.isSome_some, Option.isNone_some, Bool.and_false, Bool.false_eq_true, if_false, if_true] at hb
            split at hb
            · cases hb
            · rename_i h' hh'
              obtain ⟨q1, q2⟩ := bnd_some (P := P) hh' hh (Nat.le_refl _) .slice3B w
              cases lo with
              | none =>
                cases lo' with
                | some _ => exact hl.elim
                | none =>
                  simp only [bnd] at hb
                  cases hb
                  exact ⟨_, by simp [Instr.sliceBounds, p1, q1], .inl ⟨rfl, rfl, p2⟩, Nat.zero_le _, fun _ => q2, by simp⟩
              | some v =>
                cases lo' with
                | none => exact hl.elim
                | some v' =>
                  split at hb
                  · cases hb
                  · rename_i l' hl'
                    cases hb
                    obtain ⟨r1, r2⟩ := bnd_some (P := P) hl' hl (Nat.le_refl _) .slice3C w
                    exact ⟨_, by simp [Instr.sliceBounds, p1, q1, r1], .inl ⟨rfl, rfl, p2⟩, r2, fun _ => q2, by simp⟩

theorem slice_sound {t : TypeId} {x x' v : Value} {lo hi mx lo' hi' mx' : Option Value} (h : aSlice P t x lo hi mx = some v) (hx : VR ex μ x x')
    (hl : OR ex μ lo lo') (hh : OR ex μ hi hi') (hm : OR ex μ mx mx') : okv P ex μ (Instr.sliceAt t x' lo' hi' mx') v := by
  unfold aSlice at h
  split at h
  · rename_i n e b o hu
    split at h
    · rename_i s l hh' m hs hb
      cases h
      cases hx with
      | ptr hm' =>
        rename_i en
        by_cases hml : m = l
        · have hlh : l = hh' := by
            obtain ⟨m', _, h2, h3, h4, h5⟩ := bnds_sound (P := P) hb hl hh hm (Nat.le_refl _) false default
            cases hi with
            | none =>
              have := h5 rfl
              cases mx with
              | none =>
                rcases h2 with ⟨h, _⟩ | ⟨_, h, _⟩
                · cases h
                · omega
              | some z => simp [bnds] at hb; split at hb <;> simp at hb
            | some u => have := h4 rfl; omega
          refine .of (v' := .slice (some ⟨en.cb, en.base + o, none⟩) 0 0) (fun w => ?_) ?_
          · obtain ⟨m', h1, h2, _⟩ := bnds_sound (P := P) hb hl hh hm (Nat.le_refl _) false w
            have : m' = m := by rcases h2 with ⟨_, h, _⟩ | ⟨_, h, h'⟩ <;> omega
            subst this
            simp [Instr.sliceAt, Instr.sureAddr, run_underlying hu, h1, run_sizeOf' hs, hml, hlh]
          · subst hlh
            rw [hml, Nat.sub_self]
            exact .sempty hm' _
        · refine .of (v' := .slice (some ⟨en.cb, en.base + (o + l * s), none⟩) (hh' - l) (m - l)) (fun w => ?_) ?_
          · obtain ⟨m', h1, h2, _⟩ := bnds_sound (P := P) hb hl hh hm (Nat.le_refl _) false w
            have : m' = m := by rcases h2 with ⟨_, h, _⟩ | ⟨_, h, h'⟩ <;> omega
            subst this
            simp [Instr.sliceAt, Instr.sureAddr, run_underlying hu, h1, run_sizeOf' hs, hml, add_off, Nat.add_assoc]
          · exact .slice hm' (.inl rfl)
    · cases h
  · rename_i e len cap hu
    split at h
    · rename_i s l hh' m hs hb
      cases h
      cases hx with
      | snil =>
        refine .of (fun w => ?_) (.snil _ _)
        obtain ⟨m', h1, h2, _⟩ := bnds_sound (P := P) hb hl hh hm (Nat.le_refl _) true w
        have : m' = m := by rcases h2 with ⟨_, h, _⟩ | ⟨_, h, h'⟩ <;> omega
        subst this
        simp [Instr.sliceAt, Instr.slice, run_underlying hu, h1, run_sizeOf' hs]
    · cases h
  · rename_i e b o z len cap hu
    split at h
    · rename_i s l hh' m hs hb
      split at h
      · rename_i hsz
        obtain ⟨rfl, hlm⟩ := hsz
        cases h
        cases hx with
        | slice hm' hc =>
          rename_i cap' en
          have hcc : cap ≤ cap' := by rcases hc with h | ⟨_, _, h⟩ <;> omega
          obtain ⟨m', _, h2, h3, h4, h5⟩ := bnds_sound (P := P) hb hl hh hm hcc true default
          by_cases hml : m' = l
          · have hmm : m = l := by rcases h2 with ⟨_, h, _⟩ | ⟨_, h, h'⟩ <;> omega
            have hll : hh' = l := by omega
            subst hll
            rw [hmm, Nat.sub_self]
            refine .of (v' := .slice (some ⟨en.cb, en.base + o, none⟩) 0 0) (fun w => ?_) (.sempty hm' _)
            obtain ⟨m'', h1, h2', _⟩ := bnds_sound (P := P) hb hl hh hm hcc true w
            have : m'' = m' := by rcases h2 with ⟨q, h, _⟩ | ⟨q, h, h'⟩ <;> rcases h2' with ⟨q', k, _⟩ | ⟨q', k, k'⟩ <;> first | omega | (rw [q'] at q; cases q) | (rw [q] at q'; cases q')
            subst this
            simp [Instr.sliceAt, Instr.slice, run_underlying hu, h1, run_sizeOf' hs, hml]
          · refine .of (v' := .slice (some ⟨en.cb, en.base + (o + l * s), none⟩) (hh' - l) (m' - l)) (fun w => ?_) ?_
            · obtain ⟨m'', h1, h2', _⟩ := bnds_sound (P := P) hb hl hh hm hcc true w
              have : m'' = m' := by rcases h2 with ⟨q, h, _⟩ | ⟨q, h, h'⟩ <;> rcases h2' with ⟨q', k, _⟩ | ⟨q', k, k'⟩ <;> first | omega | (rw [q'] at q; cases q) | (rw [q] at q'; cases q')
              subst this
              simp [Instr.sliceAt, Instr.slice, run_underlying hu, h1, run_sizeOf' hs, hml, add_off, Nat.add_assoc]
            · refine .slice hm' ?_
              rcases h2 with ⟨_, h, _⟩ | ⟨_, h, h'⟩
              · left; omega
              · subst h h'
                rcases hc with h | ⟨ha, hb', hc'⟩
                · left; omega
                · right
                  refine ⟨ha, ?_, by omega⟩
                  rw [← hb', Nat.add_assoc, ← Nat.add_mul]
                  congr 2
                  omega
        | sempty hm' a =>
          obtain ⟨m', _, h2, h3, h4, h5⟩ := bnds_sound (P := P) hb hl hh hm (Nat.le_refl 0) true default
          have hm0 : m = 0 := by rcases h2 with ⟨_, h, _⟩ | ⟨_, h, h'⟩ <;> omega
          have hl0 : l = 0 := by omega
          have hh0 : hh' = 0 := by
            cases hi with
            | none => exact h5 rfl
            | some u => have := h4 rfl; omega
          subst hm0 hl0 hh0
          refine .of (v' := .slice (some a) 0 0) (fun w => ?_) ?_
          · obtain ⟨m'', h1, h2', _⟩ := bnds_sound (P := P) hb hl hh hm (Nat.le_refl 0) true w
            have : m'' = 0 := by rcases h2' with ⟨_, h, _⟩ | ⟨_, h, h'⟩ <;> omega
            subst this
            simp [Instr.sliceAt, Instr.slice, run_underlying hu, h1, run_sizeOf' hs]
          · simpa using VR.sempty hm' a
      · cases h
    · cases h
  · rename_i s hu
    cases hmx : mx.isSome <;> rw [hmx] at h <;> simp only [cond_true, cond_false] at h
    · cases mx with
      | some _ => cases hmx
      | none =>
        cases mx' with
        | some _ => exact hm.elim
        | none =>
          split at h
          · rename_i l hh' m hb
            cases h
            rw [hx.string_of]
            refine .of (fun w => ?_) (.string _)
            obtain ⟨m', h1, h2, _⟩ := bnds_sound (P := P) hb hl hh (show OR ex μ none none from trivial) (Nat.le_refl _) false w
            simp [Instr.sliceAt, Instr.slice, run_underlying hu, h1]
          · cases h
    · cases h
  · cases h

theorem toInt_cn {x : Nat} {n : Int} (h : (dbl.read (cn ex x)).toInt .zero = some n) : (dbl.read x).toInt .zero = some n := by
  cases ex
  · cases hx : isNaN x
    · simpa [cn, can_of_num hx] using h
    · obtain ⟨s', t', e'⟩ := read_nan (by rw [isNaN_can]; exact hx : isNaN (can x) = true)
      simp only [cn, cond_false, e'] at h
      cases h
  · exact h

theorem isNaN_nearest (n : Int) : isNaN (FloatKind.f64.nearest n) = false := isNaN_write (d := .number (n < 0) n.natAbs 0) rfl

theorem conv_sound {s d : TypeId} {x x' v : Value} (h : aConv P s d x = some v) (hx : VR ex μ x x') : okv P ex μ (convert s d x') v := by
  unfold aConv at h
  split at h
  · rename_i hs hd; cases h; rw [hx.int_of]
    refine .of (fun w => ?_) (.int _ _)
    rename_i u _ _ _
    cases u <;> simp [convert, run_underlying hs, run_underlying hd, Conv.intToInt]
  · rename_i hs hd; cases h; rw [hx.int_of]
    rename_i u n
    refine .of (v' := .float .f64 (FloatKind.f64.nearest n)) (fun w => ?_) ?_
    · cases u <;> simp [convert, run_underlying hs, run_underlying hd, Conv.intToFloat]
    · have := VR.float (ex := ex) (μ := μ) .f64 (FloatKind.f64.nearest n)
      rwa [cn_num (isNaN_nearest n)] at this
  · rename_i hs hd
    split at h
    · rename_i n hn
      split at h
      · rename_i hb
        cases h
        obtain ⟨b, rfl, rfl⟩ := hx.float_of
        have hn' := toInt_cn hn
        refine .of (fun w => ?_) (.int _ _)
        have hdec : (FloatKind.f64.decode b).toInt .zero = some n := hn'
        rename_i u _ _
        cases u <;> simp [convert, run_underlying hs, run_underlying hd, Conv.floatToInt, hdec, hb.1, hb.2]
      · cases h
    · cases h
  · rename_i hs hd; cases h
    obtain ⟨b, rfl, rfl⟩ := hx.float_of
    refine .of (fun w => ?_) (.float _ _)
    rename_i u
    cases u <;> simp [convert, run_underlying hs, run_underlying hd, Conv.floatToFloat]
  · rename_i hs hd; cases h
    obtain ⟨a, b, rfl, rfl, rfl⟩ := hx.complex_of
    refine .of (fun w => ?_) (.complex _ _ _)
    simp [convert, run_underlying hs, run_underlying hd, Conv.complexToComplex, Conv.floatToFloat]
  · rename_i hs hd; cases h; rw [hx.string_of]
    refine .of (fun w => ?_) (.string _)
    simp [convert, run_underlying hs, run_underlying hd]
  · cases h

theorem bin_sound {op : BinOp} {t : TypeId} {x y x' y' v : Value} (h : aBin P ex op t x y = some v) (hx : VR ex μ x x') (hy : VR ex μ y y') (a b : Operand) :
    okv P ex μ (do eqGuard op t a b x' y'; binOp op t x' y') v := by
  have hg : ∀ w, (eqGuard op t a b x' y').run P w = .ok () w := by
    refine eqGuard_ok a b ?_ hx hy
    rintro hop (⟨xs, ys, rfl, rfl⟩ | rfl)
    · rcases hop with rfl | rfl <;> (simp only [aBin, eqOp] at h; split at h <;> simp_all)
    · rcases hop with rfl | rfl <;> (unfold aBin at h; cases y <;> simp [aEq, eq1] at h)
  have key : okv P ex μ (binOp op t x' y') v → okv P ex μ (do eqGuard op t a b x' y'; binOp op t x' y') v := by
    intro h w
    obtain ⟨n, v', h1, h2⟩ := h w
    exact ⟨n, v', by simp [hg, h1], h2⟩
  refine key ?_
  clear key hg
  have eqop : ∀ {x : Value}, eqOp op (aEq P t x y) = some v → VR ex μ x x' → (∀ y w, (binOp .eql t x' y).run P w = (do pure (.bool (← Op.equal t x' y)) : Sem Value).run P w ∧
      (binOp .neq t x' y).run P w = (do pure (.bool (!(← Op.equal t x' y))) : Sem Value).run P w) → VR ex μ y y' → okv P ex μ (binOp op t x' y') v := by
    intro x h hx hb hy
    cases hr : aEq P t x y with
    | none => rw [hr] at h; cases op <;> cases h
    | some r =>
      rw [hr] at h
      have he := aEq_sound hr hx hy
      cases op <;> simp only [eqOp] at h <;> (try (cases h; done))
      · cases h
        exact .of (v' := .bool r) (fun w => by rw [(hb y' w).1]; simp [he]) (.bool _)
      · cases h
        exact .of (v' := .bool !r) (fun w => by rw [(hb y' w).2]; simp [he]) (.bool _)
  unfold aBin at h
  split at h
  · rw [hx.int_of, hy.int_of]
    split at h
    · exact shbin_sound h t
    · exact shbin_sound h t
    · rename_i h1 h2
      split at h
      · rename_i hk; subst hk; exact ibin_sound h h1 h2 t
      · cases h
  · obtain ⟨a, rfl, rfl⟩ := hx.float_of
    obtain ⟨b, rfl, rfl⟩ := hy.float_of
    exact fbin_sound h t
  · obtain ⟨a, b, rfl, rfl, rfl⟩ := hx.complex_of
    obtain ⟨c, d, rfl, rfl, rfl⟩ := hy.complex_of
    have two : ∀ {op : BinOp} {f : Nat → Nat → Option Nat}, (∀ x y, Op.floatArith op .f64 x y = fin x y (f x y)) → (∀ x y, f (can x) (can y) = f x y) → (∀ x y r, f x y = some r → isNaN r = false) →
        okv P false μ (do pure (Value.complex .f64 (← Op.Complex.arith op .f64 a c) (← Op.Complex.arith op .f64 b d))) (.complex .f64 (orN (f (cn false a) (cn false c))) (orN (f (cn false b) (cn false d)))) := by
      intro op f h1 h2 h3 w
      obtain ⟨n1, v1, e1, r1⟩ := farith_sound (P := P) (μ := μ) (h1 a c) h2 h3 w
      obtain ⟨x1, rfl, q1⟩ := r1.float_of
      obtain ⟨n2, v2, e2, r2⟩ := farith_sound (P := P) (μ := μ) (h1 b d) h2 h3 { w with drawn := w.drawn + n1 }
      obtain ⟨x2, rfl, q2⟩ := r2.float_of
      refine ⟨n1 + n2, .complex .f64 x1 x2, ?_, ?_⟩
      · simp [Op.Complex.arith, e1, e2, Nat.add_assoc]
      · rw [q1, q2]; exact .complex _ _ _
    split at h
    · cases ex <;> cases h
      exact two (op := .add) (f := dbl.add) (fun _ _ => rfl) add_can (fun _ _ _ => add_num)
    · cases ex <;> cases h
      exact two (op := .sub) (f := dbl.sub) (fun _ _ => rfl) sub_can (fun _ _ _ => sub_num)
    · cases h
      rw [feq_cn, feq_cn]
      refine .of (fun w => ?_) (.bool _)
      simp [binOp, Op.complexOp, Op.Complex.cmp, Op.floatCmp, asBool]
      rfl
    · cases h
      rw [feq_cn, feq_cn]
      refine .of (fun w => ?_) (.bool _)
      simp [binOp, Op.complexOp, Op.Complex.cmp, Op.floatCmp, asBool]
      rfl
    · cases h
  · rw [hx.string_of, hy.string_of]
    split at h
    · cases h; exact .of (fun _ => rfl) (.bool _)
    · cases h; exact .of (fun _ => rfl) (.bool _)
    · cases h
  · exact eqop h hx (by cases hx; exact fun y w => by cases y <;> exact ⟨rfl, rfl⟩) hy
  · exact eqop h hx (by cases hx <;> exact fun y w => by cases y <;> exact ⟨rfl, rfl⟩) hy
  · exact eqop h hx (by cases hx <;> exact fun y w => by cases y <;> exact ⟨rfl, rfl⟩) hy
  · exact eqop h hx (by cases hx; exact fun y w => by cases y <;> exact ⟨rfl, rfl⟩) hy
  · cases h

end Go.Lk
