/- Code by reckoning; blocks renamed; whole functions. -/
import Derived.Test.YtmomainjlncogaaLkJJ
namespace Go.Lk
set_option linter.unusedSimpArgs false
set_option linter.unusedVariables false

section
variable {C : Cfg}

theorem iter_mono {f : List Value → AHeap → Res} (hf : ∀ fr σ e fr' σ', f fr σ = some (e, fr', σ') → σ.length ≤ σ'.length ∧ Lk.Exit.isG e = false) : ∀ (n : Nat) (fr : List Value) (σ : AHeap) (e : Exit) (fr' : List Value) (σ' : AHeap),
    iter f n fr σ = some (e, fr', σ') → σ.length ≤ σ'.length ∧ Lk.Exit.isG e = false
  | 0, _, _, _, _, _, h => by cases h
  | n + 1, fr, σ, e, fr', σ', h => by
    unfold iter at h
    split at h
    · rename_i fr1 σ1 h1
      have := iter_mono hf n _ _ _ _ _ h
      exact ⟨Nat.le_trans (hf _ _ _ _ _ h1).1 this.1, this.2⟩
    · exact hf _ _ _ _ _ h

theorem DC_mono (hC : C.Ok) (n : Nat) : ∀ (c : Code) (fr : List Value) (σ : AHeap) (e : Exit) (fr' : List Value) (σ' : AHeap), DC C n c fr σ = some (e, fr', σ') → σ.length ≤ σ'.length ∧ Lk.Exit.isG e = false := by
  intro c
  induction c with
  | skip => intro fr σ e fr' σ' h; cases h; exact ⟨Nat.le_refl _, rfl⟩
  | region id ops draw =>
    intro fr σ e fr' σ' h
    simp only [DC] at h
    split at h
    · rename_i h1; cases h; exact ⟨runOps_mono hC _ _ _ _ _ h1, rfl⟩
    · cases h
  | seq a b iha ihb =>
    intro fr σ e fr' σ' h
    simp only [DC] at h
    split at h
    · rename_i h1
      have := ihb _ _ _ _ _ h
      exact ⟨Nat.le_trans (iha _ _ _ _ _ h1).1 this.1, this.2⟩
    · exact iha _ _ _ _ _ h
  | cond c x y ihx ihy =>
    intro fr σ e fr' σ' h
    simp only [DC] at h
    split at h
    · rename_i b _
      cases b
      · exact ihy _ _ _ _ _ h
      · exact ihx _ _ _ _ _ h
    · cases h
  | block id b ih =>
    intro fr σ e fr' σ' h
    simp only [DC] at h
    split at h
    · rename_i h1
      have := ih _ _ _ _ _ h1
      split at h <;> cases h
      · exact ⟨this.1, rfl⟩
      · exact ⟨this.1, rfl⟩
    · exact ih _ _ _ _ _ h
  | loop b ih =>
    intro fr σ e fr' σ' h
    simp only [DC] at h
    exact iter_mono ih n _ _ _ _ _ h
  | exit id => intro fr σ e fr' σ' h; cases h; exact ⟨Nat.le_refl _, rfl⟩
  | ret => intro fr σ e fr' σ' h; cases h; exact ⟨Nat.le_refl _, rfl⟩
  | label l => intro fr σ e fr' σ' h; cases h; exact ⟨Nat.le_refl _, rfl⟩
  | scope b ih => intro fr σ e fr' σ' h; exact ih _ _ _ _ _ h
  | _ => intro fr σ e fr' σ' h; cases h

theorem iter_sound {f : List Value → AHeap → Res} {c : Code} {n0 : Nat} (hm : ∀ fr σ e fr' σ', f fr σ = some (e, fr', σ') → σ.length ≤ σ'.length)
    (hf : ∀ fr σ e fr' σ', f fr σ = some (e, fr', σ') → Sim C σ.length c fr σ e fr' σ') : ∀ (n : Nat) (fr : List Value) (σ : AHeap) (e : Exit) (fr' : List Value) (σ' : AHeap), n0 ≤ σ.length →
    iter f n fr σ = some (e, fr', σ') → ∃ (S : Nat → List Value × AHeap) (N : Nat), S 0 = (fr, σ) ∧ (∀ k, k < N → Sim C n0 c (S k).1 (S k).2 .normal (S (k + 1)).1 (S (k + 1)).2) ∧ Sim C n0 c (S N).1 (S N).2 e fr' σ' ∧ Lk.Exit.isN e = false
  | 0, _, _, _, _, _, _, h => by cases h
  | n + 1, fr, σ, e, fr', σ', hn, h => by
    unfold iter at h
    split at h
    · rename_i fr1 σ1 h1
      have hle := hm _ _ _ _ _ h1
      obtain ⟨S, N, e0, e1, e2, e3⟩ := iter_sound (n0 := n0) hm hf n fr1 σ1 e fr' σ' (by omega) h
      refine ⟨fun k => match k with | 0 => (fr, σ) | k + 1 => S k, N + 1, rfl, fun k hk => ?_, e2, e3⟩
      cases k with
      | zero =>
        show Sim C n0 c fr σ .normal (S 0).1 (S 0).2
        rw [e0]
        exact (hf _ _ _ _ _ h1).le hn
      | succ k => exact e1 k (by omega)
    · rename_i hno
      refine ⟨fun _ => (fr, σ), 0, rfl, fun k hk => by omega, (hf _ _ _ _ _ h).le hn, ?_⟩
      cases e <;> first | rfl | skip
      exact absurd h (hno _ _)

/-- WHAT IS RECKONED HOLDS. -/
theorem DC_sound (hC : C.Ok) (n : Nat) : ∀ (c : Code) (fr : List Value) (σ : AHeap) (e : Exit) (fr' : List Value) (σ' : AHeap), codeOk C c = true → DC C n c fr σ = some (e, fr', σ') → Sim C σ.length c fr σ e fr' σ' := by
  intro c
  induction c with
  | skip => intro fr σ e fr' σ' _ h; cases h; exact Sim.skip
  | region id ops draw =>
    intro fr σ e fr' σ' hok h
    simp only [DC] at h
    split at h
    · rename_i h1; cases h; exact Sim.region hC hok h1
    · cases h
  | seq a b iha ihb =>
    intro fr σ e fr' σ' hok h
    simp only [codeOk, Bool.and_eq_true] at hok
    simp only [DC] at h
    split at h
    · rename_i h1
      exact (iha _ _ _ _ _ hok.1 h1).seq ((ihb _ _ _ _ _ hok.2 h).le (DC_mono hC n _ _ _ _ _ _ h1).1)
    · rename_i hno
      refine (iha _ _ _ _ _ hok.1 h).seq_out ?_
      cases e <;> first | rfl | skip
      exact absurd h (hno _ _)
  | cond c x y ihx ihy =>
    intro fr σ e fr' σ' hok h
    simp only [codeOk, Bool.and_eq_true] at hok
    simp only [DC] at h
    split at h
    · rename_i b hb
      refine Sim.cond hb ?_
      cases b
      · exact ihy _ _ _ _ _ hok.2 h
      · exact ihx _ _ _ _ _ hok.1 h
    · cases h
  | block id b ih =>
    intro fr σ e fr' σ' hok h
    simp only [codeOk] at hok
    simp only [DC] at h
    split at h
    · rename_i id' fr1 σ1 h1
      have := (ih _ _ _ _ _ hok h1).block (id := id)
      split at h
      · rename_i hid
        cases h
        simpa only [outOf, if_pos hid] using this
      · rename_i hid
        cases h
        simpa only [outOf, if_neg hid] using this
    · rename_i hno
      have := (ih _ _ _ _ _ hok h).block (id := id)
      have he : outOf id e = e := by
        cases e <;> first | rfl | skip
        exact absurd h (hno _ _ _)
      rwa [he] at this
  | loop b ih =>
    intro fr σ e fr' σ' hok h
    simp only [codeOk] at hok
    simp only [DC] at h
    obtain ⟨S, N, e0, e1, e2, e3⟩ := iter_sound (n0 := σ.length) (fun _ _ _ _ _ h => (DC_mono hC n _ _ _ _ _ _ h).1) (fun _ _ _ _ _ h => ih _ _ _ _ _ hok h) n fr σ e fr' σ' (Nat.le_refl _) h
    have := Sim.loop S N e1 e2 e3
    rwa [e0] at this
  | exit id => intro fr σ e fr' σ' _ h; cases h; exact Sim.exit
  | ret => intro fr σ e fr' σ' _ h; cases h; exact Sim.ret
  | label l => intro fr σ e fr' σ' _ h; cases h; exact Sim.label
  | scope b ih =>
    intro fr σ e fr' σ' hok h
    simp only [codeOk] at hok
    simp only [DC] at h
    exact (ih _ _ _ _ _ hok h).scope (DC_mono hC n _ _ _ _ _ _ h).2
  | _ => intro fr σ e fr' σ' _ h; cases h

end

/-! ### Blocks renamed -/
/-- A value with its blocks renamed, to a depth. -/
def renV (r : Nat → Nat) : Nat → Value → Value
  | _, .pointer (some ⟨b, o, s⟩) => .pointer (some ⟨r b, o, s⟩)
  | _, .slice (some ⟨b, o, s⟩) l c => .slice (some ⟨r b, o, s⟩) l c
  | d + 1, .agg cs => .agg (cs.toList.map (renV r d)).toArray
  | d + 1, .tuple cs => .tuple (cs.toList.map (renV r d)).toArray
  | d + 1, .func f xs ys => .func f (xs.toList.map (renV r d)).toArray (ys.toList.map (renV r d)).toArray
  | d + 1, .iface t v => .iface t (renV r d v)
  | 0, .agg _ => .map (some 0)
  | 0, .tuple _ => .map (some 0)
  | 0, .func .. => .map (some 0)
  | 0, .iface .. => .map (some 0)
  | _, v => v

theorem VR.no_map {ex : Bool} {μ : List (Option Ent)} {n : Nat} {v : Value} (h : VR ex μ (.map (some n)) v) : False := by cases h

theorem VRs.ren {ex : Bool} {μ1 μ' : List (Option Ent)} {f : Value → Value} (hf : ∀ v c, VR ex μ1 (f v) c → VR ex μ' v c) {vs cs : List Value} (h : VRs ex μ1 (vs.map f) cs) : VRs ex μ' vs cs := by
  refine ⟨by simpa using h.1, fun i a ha => ?_⟩
  obtain ⟨c, hc, hv⟩ := h.2 i (f a) (by simp [ha])
  exact ⟨c, hc, hf _ _ hv⟩

theorem VR.ren {ex : Bool} {μ1 μ' : List (Option Ent)} {r : Nat → Nat} (hr : ∀ b e, μ1[r b]? = some (some e) → μ'[b]? = some (some e)) : ∀ (d : Nat) (v c : Value), VR ex μ1 (renV r d v) c → VR ex μ' v c := by
  intro d
  induction d with
  | zero =>
    intro v c h
    cases v with
    | pointer a =>
      cases a with
      | none => cases h; exact .pnil
      | some a =>
        obtain ⟨b, o, s⟩ := a
        simp only [renV] at h
        cases h with
        | ptr hm => exact .ptr (hr _ _ hm)
    | slice a l cp =>
      cases a with
      | none => cases h; exact .snil _ _
      | some a =>
        obtain ⟨b, o, s⟩ := a
        simp only [renV] at h
        cases h with
        | slice hm hc => exact .slice (hr _ _ hm) hc
        | sempty hm a => exact .sempty (hr _ _ hm) a
    | agg cs => exact (VR.no_map h).elim
    | tuple cs => exact (VR.no_map h).elim
    | func f xs ys => exact (VR.no_map h).elim
    | iface t v => exact (VR.no_map h).elim
    | map m => cases m with | none => cases h; exact .mapNil | some m => exact (VR.no_map h).elim
    | chan m => cases h
    | _ => cases h; constructor
  | succ d ih =>
    intro v c h
    cases v with
    | pointer a =>
      cases a with
      | none => cases h; exact .pnil
      | some a =>
        obtain ⟨b, o, s⟩ := a
        simp only [renV] at h
        cases h with
        | ptr hm => exact .ptr (hr _ _ hm)
    | slice a l cp =>
      cases a with
      | none => cases h; exact .snil _ _
      | some a =>
        obtain ⟨b, o, s⟩ := a
        simp only [renV] at h
        cases h with
        | slice hm hc => exact .slice (hr _ _ hm) hc
        | sempty hm a => exact .sempty (hr _ _ hm) a
    | agg cs =>
      simp only [renV] at h
      obtain ⟨c', rfl, hv⟩ := h.agg_iff
      exact VRs.toAgg (VRs.ren ih (by simpa using hv))
    | tuple cs =>
      simp only [renV] at h
      obtain ⟨c', rfl, hv⟩ := h.tuple_iff
      exact VRs.toTuple (VRs.ren ih (by simpa using hv))
    | func f xs ys =>
      simp only [renV] at h
      obtain ⟨xs', ys', rfl, h1, h2⟩ := h.func_iff
      have k1 : VRs ex μ' xs.toList xs'.toList := VRs.ren ih (by simpa using h1)
      have k2 : VRs ex μ' ys.toList ys'.toList := VRs.ren ih (by simpa using h2)
      obtain ⟨e1, j1⟩ := k1.elems
      obtain ⟨e2, j2⟩ := k2.elems
      exact .func _ e1 e2 j1 j2
    | iface t v =>
      simp only [renV] at h
      cases h with
      | iface _ h => exact .iface _ (ih _ _ h)
    | map m => cases m with | none => cases h; exact .mapNil | some m => exact (VR.no_map h).elim
    | chan m => cases h
    | _ => cases h; constructor

/-- What stood under the old names stands under the new ones. -/
theorem VR.again {ex : Bool} {μ μ1 μ' : List (Option Ent)} {a c : Value} (h : VR ex μ a c) (hr : ∀ b e, b < μ.length → μ1[b]? = some (some e) → μ'[b]? = some (some e)) : ∀ {c' : Value}, VR ex μ1 a c' → VR ex μ' a c' := by
  induction h with
  | ptr h => intro c' h'; cases h' with | ptr hm => exact .ptr (hr _ _ (lt_of_some h) hm)
  | slice h hc =>
    intro c' h'
    cases h' with
    | slice hm hc' => exact .slice (hr _ _ (lt_of_some h) hm) hc'
    | sempty hm a => exact .sempty (hr _ _ (lt_of_some h) hm) a
  | sempty h a =>
    intro c' h'
    cases h' with
    | slice hm hc' => exact .slice (hr _ _ (lt_of_some h) hm) hc'
    | sempty hm a => exact .sempty (hr _ _ (lt_of_some h) hm) a
  | func fn hf hc _ _ ih1 ih2 =>
    intro c' h'
    cases h' with
    | func _ hf' hc' h1 h2 => exact .func _ hf' hc' (fun i hi => ih1 i hi (h1 i hi)) (fun i hi => ih2 i hi (h2 i hi))
  | iface t _ ih => intro c' h'; cases h' with | iface _ h => exact .iface _ (ih h)
  | agg hc _ ih => intro c' h'; cases h' with | agg hc' h => exact .agg hc' (fun i hi => ih i hi (h i hi))
  | tuple hc _ ih => intro c' h'; cases h' with | tuple hc' h => exact .tuple hc' (fun i hi => ih i hi (h i hi))
  | float k x => intro c' h'; obtain ⟨x', rfl, hx⟩ := h'.float_of; rw [hx]; exact .float _ _
  | complex k x y => intro c' h'; obtain ⟨x', y', rfl, hx, hy⟩ := h'.complex_of; rw [hx, hy]; exact .complex _ _ _
  | _ => intro c' h'; cases h'; constructor
theorem VRs.again {ex : Bool} {μ μ1 μ' : List (Option Ent)} {a c c' : List Value} (h : VRs ex μ a c) (hr : ∀ b e, b < μ.length → μ1[b]? = some (some e) → μ'[b]? = some (some e)) (h' : VRs ex μ1 a c') : VRs ex μ' a c' :=
  ⟨h'.1, fun i x hx => let ⟨y, hy, hv⟩ := h'.2 i x hx; let ⟨_, _, hv0⟩ := h.2 i x hx; ⟨y, hy, hv0.again hr hv⟩⟩

def renO (r : Nat → Nat) : AObj → AObj
  | .row vs rw opn => .row (vs.map (renV r 3)) rw opn
  | o => o

/-- A heap that stood somewhere. -/
def Stood (ex : Bool) (σ : AHeap) : Prop := ∃ B μ w, HR ex B μ σ w

/-- σ' is σ1 with its blocks renamed and some left out; σ0: the heap at the call's begin. -/
structure Emb (σ0 : AHeap) (r : Nat → Nat) (σ' σ1 : AHeap) : Prop where
  le : σ0.length ≤ σ'.length
  out : ∀ b, σ'.length ≤ b → σ1.length ≤ r b
  fix : ∀ b, b < σ0.length → r b = b
  inj : ∀ b b' o o', σ'[b]? = some o → σ'[b']? = some o' → o.live = true → o'.live = true → r b = r b' → b = b'
  obj : ∀ b o, σ'[b]? = some o → o.live = true → (b < σ0.length ∧ σ0[b]? = some o ∧ σ1[b]? = some o) ∨ σ1[r b]? = some (renO r o)

theorem renO_live (r : Nat → Nat) (o : AObj) : (renO r o).live = o.live := by cases o <;> rfl
theorem renO_owned (r : Nat → Nat) (o : AObj) : (renO r o).owned = o.owned := by cases o <;> rfl

theorem ObjR.ren {ex : Bool} {μ1 μ' : List (Option Ent)} {B : Nat → Prop} {w : World} {e : Ent} {r : Nat → Nat} (hr : ∀ b e, μ1[r b]? = some (some e) → μ'[b]? = some (some e)) {o : AObj} (h : ObjR ex μ1 B w e (renO r o)) : ObjR ex μ' B w e o := by
  cases o with
  | dead => trivial
  | iter s p => exact h
  | row vs rw opn =>
    obtain ⟨h0, h1, c, el, lo, hi, h2, h3, h4, h5⟩ := h
    simp only [List.length_map] at h0 h3 h4
    exact ⟨h0, h1, c, el, lo, hi, h2, h3, VRs.ren (fun v c => VR.ren hr 3 v c) h4, h5⟩

/-- The new names. -/
def renM (μ1 : List (Option Ent)) (r : Nat → Nat) (n : Nat) : List (Option Ent) := (List.range n).map fun b => (μ1[r b]?).getD none

theorem renM_get {μ1 : List (Option Ent)} {r : Nat → Nat} {n b : Nat} (hb : b < n) : (renM μ1 r n)[b]? = some ((μ1[r b]?).getD none) := by
  unfold renM
  rw [List.getElem?_map, List.getElem?_range hb]; rfl
theorem renM_some {μ1 : List (Option Ent)} {r : Nat → Nat} {n b : Nat} {e : Ent} (hb : (renM μ1 r n)[b]? = some (some e)) : b < n ∧ μ1[r b]? = some (some e) := by
  have hlt : b < n := by have := lt_of_some hb; simpa [renM] using this
  rw [renM_get hlt] at hb
  refine ⟨hlt, ?_⟩
  cases hm : μ1[r b]? with
  | none => rw [hm] at hb; cases hb
  | some x => rw [hm] at hb; simpa using hb
theorem renM_back {μ1 : List (Option Ent)} {r : Nat → Nat} {n b : Nat} {e : Ent} (hb : b < n) (h : μ1[r b]? = some (some e)) : (renM μ1 r n)[b]? = some (some e) := by
  rw [renM_get hb, h]; rfl

theorem Emb.back {ex : Bool} {B : Nat → Prop} {μ1 : List (Option Ent)} {σ0 σ' σ1 : AHeap} {w : World} {r : Nat → Nat} (h : HR ex B μ1 σ1 w) (he : Emb σ0 r σ' σ1) : ∀ b e, μ1[r b]? = some (some e) → (renM μ1 r σ'.length)[b]? = some (some e) := by
  intro b e hb
  refine renM_back ?_ hb
  rcases Nat.lt_or_ge b σ'.length with h' | h'
  · exact h'
  · have := he.out b h'
    have := lt_of_some hb
    have := h.len
    omega

theorem Emb.heap {ex : Bool} {B : Nat → Prop} {μ1 : List (Option Ent)} {σ0 σ' σ1 : AHeap} {w : World} {r : Nat → Nat} (h : HR ex B μ1 σ1 w) (hs : Stood ex σ0) (he : Emb σ0 r σ' σ1) : HR ex B (renM μ1 r σ'.length) σ' w := by
  have hback := he.back h
  have hle := he.le
  obtain ⟨B0, μ0, w0, h0⟩ := hs
  have hold : ∀ b e, b < μ0.length → μ1[b]? = some (some e) → (renM μ1 r σ'.length)[b]? = some (some e) := by
    intro b e hb hm
    rw [h0.len] at hb
    exact hback b e (by rw [he.fix b hb]; exact hm)
  -- what stands in σ1 where b goes
  have there : ∀ b o, σ'[b]? = some o → o.live = true → ∃ o1, σ1[r b]? = some o1 ∧ o1.live = true ∧ (o.owned = true → o1.owned = true) := by
    intro b o hb hl
    rcases he.obj b o hb hl with ⟨hlt, h1, h2⟩ | h2
    · exact ⟨o, by rw [he.fix b hlt]; exact h2, hl, id⟩
    · exact ⟨_, h2, by rw [renO_live]; exact hl, by rw [renO_owned]; exact id⟩
  refine ⟨by simp [renM], h.hB, ?_, ?_, ?_⟩
  · intro b o hb hl
    obtain ⟨o1, h1, h2, _⟩ := there b o hb hl
    obtain ⟨e, he1⟩ := h.has _ _ h1 h2
    exact ⟨e, hback b e he1⟩
  · intro b o e hb hm
    obtain ⟨_, hm1⟩ := renM_some hm
    cases hl : o.live with
    | false => cases o <;> first | trivial | cases hl
    | true =>
      rcases he.obj b o hb hl with ⟨hlt, h1, h2⟩ | h2
      · rw [he.fix b hlt] at hm1
        have hobj := h.obj b o e h2 hm1
        obtain ⟨e0, he0, hobj0⟩ := h0.at h1 hl
        cases o with
        | dead => trivial
        | iter s p => exact hobj
        | row vs rw opn =>
          obtain ⟨g0, g1, c, el, lo, hi, g2, g3, g4, g5⟩ := hobj
          obtain ⟨_, _, c0, el0, lo0, hi0, _, _, k4, _⟩ := hobj0
          exact ⟨g0, g1, c, el, lo, hi, g2, g3, VRs.again k4 hold g4, g5⟩
      · exact (h.obj (r b) _ e h2 hm1).ren hback
  · intro b b' o o' e e' hb hb' hm hm' hown hlive hcb
    obtain ⟨_, hm1⟩ := renM_some hm
    obtain ⟨_, hm1'⟩ := renM_some hm'
    have hl : o.live = true := by cases o <;> first | rfl | cases hown
    obtain ⟨o1, h1, _, h3⟩ := there b o hb hl
    obtain ⟨o1', h1', h2', _⟩ := there b' o' hb' hlive
    exact he.inj b b' o o' hb hb' hl hlive (h.inj (r b) (r b') o1 o1' e e' h1 h1' hm1 hm1' (h3 hown) h2' hcb)

/-- The frame, with the blocks renamed: each slot is unknown, or as it was. -/
def FrEmb (r : Nat → Nat) : List Value → List Value → Prop
  | [], [] => True
  | a :: as, b :: bs => (isU a = true ∨ b = renV r 3 a) ∧ FrEmb r as bs
  | _, _ => False

theorem FrEmb.len {r : Nat → Nat} : ∀ {as bs : List Value}, FrEmb r as bs → as.length = bs.length
  | [], [], _ => rfl
  | _ :: _, _ :: _, h => by simp [FrEmb.len h.2]
  | [], _ :: _, h => h.elim
  | _ :: _, [], h => h.elim
theorem FrEmb.get {r : Nat → Nat} : ∀ {as bs : List Value}, FrEmb r as bs → ∀ (i : Nat) (a : Value), as[i]? = some a → isU a = true ∨ bs[i]? = some (renV r 3 a)
  | [], [], _, i, a, h => by simp at h
  | a :: as, b :: bs, h, i, x, hx => by
    cases i with
    | zero => simp at hx; subst hx; rcases h.1 with h | h; exact .inl h; exact .inr (by simp [h])
    | succ i => simp at hx; simpa using FrEmb.get h.2 i x hx
  | [], _ :: _, h, _, _, _ => h.elim
  | _ :: _, [], h, _, _, _ => h.elim

theorem isU_ren {r : Nat → Nat} {a : Value} (h : isU (renV r 3 a) = true) : isU a = true := by
  cases a with
  | tuple cs => simp only [renV, isU] at h ⊢; simpa using h
  | pointer a => cases a <;> cases h
  | slice a l c => cases a <;> cases h
  | _ => cases h

/-- The end of a stretch, its blocks renamed. -/
theorem Sim.emb {C : Cfg} {c : Code} {fr fr1 fr' : List Value} {σ0 σ σ1 σ' : AHeap} {e : Exit} {r : Nat → Nat} (h : Sim C σ0.length c fr σ e fr1 σ1) (hs : Stood C.ex σ0) (hn : σ0.length ≤ σ.length) (he : Emb σ0 r σ' σ1) (hf : FrEmb r fr' fr1) :
    Sim C σ0.length c fr σ e fr' σ' := by
  intro B μ tmps defers w Q hf0 hr hQ
  refine h B μ tmps defers w Q hf0 hr ?_
  intro μ1 tmps' w' q1 q2 q3 q4
  have hback := he.back q2
  refine hQ (renM μ1 r σ'.length) tmps' w' ⟨by rw [hf.len]; exact q1.1, fun i a ha => ?_⟩ (he.heap q2 hs) (fun b hb => ?_) q4
  · have hlt := lt_of_some ha
    rcases hf.get i a ha with hu | hb
    · obtain ⟨c, hc⟩ : ∃ c, tmps'[i]? = some c := ⟨_, Array.getElem?_eq_getElem (by rw [← q1.1, ← hf.len]; exact hlt)⟩
      exact ⟨c, hc, .inl hu⟩
    · obtain ⟨c, hc, hv⟩ := q1.2 i _ hb
      refine ⟨c, hc, ?_⟩
      rcases hv with hu | hv
      · exact .inl (isU_ren hu)
      · exact .inr (VR.ren hback 3 _ _ hv)
  · have hle := he.le
    have hlt : b < μ.length := by rw [hr.len]; omega
    rw [renM_get (by omega), he.fix b hb, q3 b hb, List.getElem?_eq_getElem hlt]
    rfl

/-! ### Functions -/
def aRes1 (P : Program) (fr : List Value) (σ : AHeap) : ResultVar → Option Value
  | .tmp t => aev fr (.tmp t)
  | .cell a t => match aev fr (.tmp a) with | some v => aLoad P σ t v | none => none

def aResL (P : Program) (fr : List Value) (σ : AHeap) : List ResultVar → Option (List Value)
  | [] => some []
  | r :: rs => match aRes1 P fr σ r, aResL P fr σ rs with
    | some v, some vs => some (v :: vs)
    | _, _ => none

def aResults (P : Program) (fn : Func) (fr : List Value) (σ : AHeap) : Option Value :=
  match aResL P fr σ fn.results.toList with
  | some [v] => some v
  | some vs => some (.tuple vs.toArray)
  | none => none

theorem res1_sound {C : Cfg} {B : Nat → Prop} {μ : List (Option Ent)} {fr : List Value} {σ : AHeap} {tmps : Array Value} {w : World} (hf : FrR C.ex μ fr tmps) (hr : HR C.ex B μ σ w) {rv : ResultVar} {v : Value} (h : aRes1 C.P fr σ rv = some v) :
    ∃ c, ((match rv with | .tmp t => pure (tmps.getD t undef) | .cell a t => do loadVar t (← asAddr (tmps.getD a undef)) : Sem Value)).run C.P w = .ok c w ∧ VR C.ex μ v c := by
  cases rv with
  | tmp t =>
    have h : aev fr (.tmp t) = some v := h
    have := aev_sound (a := ⟨tmps, []⟩) hf h
    exact ⟨_, rfl, this⟩
  | cell a t =>
    simp only [aRes1] at h
    split at h
    · rename_i p hp
      have hv := aev_sound (a := ⟨tmps, []⟩) hf hp
      obtain ⟨c, hc, hvc⟩ := load_sound (P := C.P) h hv hr
      refine ⟨c, ?_, hvc⟩
      rw [← hc]
      show (do loadVar t (← asAddr (tmps.getD a undef)) : Sem Value).run C.P w = _
      have he : Act.eval ⟨tmps, []⟩ (.tmp a) = tmps.getD a undef := rfl
      rw [he] at hv ⊢
      generalize tmps.getD a undef = y at hv ⊢
      unfold aLoad at h
      split at h
      · cases hv; rfl
      · cases h
    · cases h

theorem resL_sound {C : Cfg} {B : Nat → Prop} {μ : List (Option Ent)} {fr : List Value} {σ : AHeap} {tmps : Array Value} {w : World} (hf : FrR C.ex μ fr tmps) (hr : HR C.ex B μ σ w) : ∀ (rs : List ResultVar) (vs : List Value), aResL C.P fr σ rs = some vs →
    ∃ cs : List Value, VRs C.ex μ vs cs ∧ ∀ (acc : Array Value), (rs.foldlM (fun (bs : Array Value) (a : ResultVar) => bs.push <$> (match a with | .tmp t => pure (tmps.getD t undef) | .cell a t => do loadVar t (← asAddr (tmps.getD a undef)) : Sem Value)) acc : Sem (Array Value)).run C.P w = .ok (acc ++ cs.toArray) w
  | [], vs, h => by cases h; exact ⟨[], .nil, fun acc => by simp⟩
  | r :: rs, vs, h => by
    unfold aResL at h
    split at h
    · rename_i v vs' h1 h2
      cases h
      obtain ⟨c, hc, hv⟩ := res1_sound hf hr h1
      obtain ⟨cs, hvs, hrun⟩ := resL_sound hf hr rs vs' h2
      refine ⟨c :: cs, .cons hv hvs, fun acc => ?_⟩
      rw [List.foldlM_cons, Sem.run_bind, Sem.run_map, hc]
      simp only [Result.andThen_ok]
      rw [hrun]
      simp
    · cases h

theorem results_sound {C : Cfg} {B : Nat → Prop} {μ : List (Option Ent)} {fr : List Value} {σ : AHeap} {tmps : Array Value} {w : World} (hf : FrR C.ex μ fr tmps) (hr : HR C.ex B μ σ w) {fn : Func} {v : Value} (h : aResults C.P fn fr σ = some v) :
    ∃ c, (results fn tmps).run C.P w = .ok c w ∧ VR C.ex μ v c := by
  have main : ∀ vs, aResL C.P fr σ fn.results.toList = some vs → ∃ cs : List Value, VRs C.ex μ vs cs ∧ (results fn tmps).run C.P w = .ok (if h : cs.toArray.size = 1 then cs.toArray[0] else .tuple cs.toArray) w := by
    intro vs hvs
    obtain ⟨cs, h1, h2⟩ := resL_sound hf hr _ _ hvs
    refine ⟨cs, h1, ?_⟩
    unfold results
    rw [Sem.run_bind, Array.mapM_eq_foldlM, ← Array.foldlM_toList]
    have := h2 #[]
    rw [Array.empty_append] at this
    rw [show (fun (bs : Array Value) (a : ResultVar) => bs.push <$> (match a with | .tmp t => pure (tmps.getD t undef) | .cell a t => do loadVar t (← asAddr (tmps.getD a undef)) : Sem Value)) = _ from rfl] at this
    erw [this]
    rfl
  unfold aResults at h
  split at h
  · rename_i v' hl
    cases h
    obtain ⟨cs, h1, h2⟩ := main _ hl
    obtain ⟨c, rfl, hv⟩ := h1.one_of
    exact ⟨c, by rw [h2]; rfl, hv⟩
  · rename_i vs hne hl
    cases h
    obtain ⟨cs, h1, h2⟩ := main _ hl
    refine ⟨.tuple cs.toArray, ?_, VRs.toTuple' h1⟩
    rw [h2, dif_neg]
    intro hsz
    have : vs.length = 1 := by rw [h1.1]; simpa using hsz
    match vs, this with
    | [x], _ => exact hne x rfl
  · cases h

end Go.Lk
