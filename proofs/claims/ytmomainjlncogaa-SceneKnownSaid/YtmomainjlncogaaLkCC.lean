/- A region whose order is open: whatever order is taken, it ends as the text's order does. -/
import Derived.Test.YtmomainjlncogaaLkBB
namespace Go.Lk
set_option linter.unusedSimpArgs false
set_option linter.unusedVariables false

/-- What an operation is to the heap: 0 nothing; 1 it loads; 2 it changes it; 3 it makes one new block; 4 a call that reads it. -/
def cls (C : Cfg) (o : Op) : Nat :=
  match o with
  | .load .. => 1
  | .alloc _ | .box .. | .buildSlice .. | .makeSlice .. => 3
  | .store .. | .range .. | .next .. => 2
  | .call { callee := .builtin .append, .. } | .call { callee := .builtin .copy, .. } => 2
  | .call { callee := .value (.func f), .. } => bif C.p f then 0 else bif C.q f then 4 else 2
  | .call { callee := .value _, .. } => 2
  | _ => 0

/-- The slots that an operation looks at. -/
def looks (ops : Array Oper) (o : Oper) : List Tmp :=
  (o.op.operands.toList.filterMap fun | .tmp t => some t | _ => none) ++
  (match o.guard with
   | some (g, _) => ((ops[g]?).bind (·.dst)).toList
   | none => [])

theorem aev_congr {fr fr' : List Value} {x : Operand} (h : ∀ t, x = .tmp t → fr.getD t undef = fr'.getD t undef) : aev fr x = aev fr' x := by
  cases x with
  | tmp t => simp only [aev]; rw [h t rfl]
  | _ => rfl
theorem mapO_congr {f g : Operand → Option Value} : ∀ {l : List Operand}, (∀ x ∈ l, f x = g x) → mapO f l = mapO g l
  | [], _ => rfl
  | x :: l, h => by
    unfold mapO
    rw [h x (by simp), mapO_congr (fun y hy => h y (by simp [hy]))]
theorem mapP_congr {f g : Operand → Option Value} : ∀ {l : List (Nat × Operand)}, (∀ x ∈ l.map (·.2), f x = g x) → mapP f l = mapP g l
  | [], _ => rfl
  | (i, x) :: l, h => by
    unfold mapP
    rw [h x (by simp), mapP_congr (fun y hy => h y (by simp at hy ⊢; exact .inr hy))]
theorem optO_congr {f g : Operand → Option Value} {x : Option Operand} (h : ∀ y ∈ x.toList, f y = g y) : optO f x = optO g x := by
  cases x with
  | none => rfl
  | some y => unfold optO; simp only; rw [h y (by simp)]

theorem aOp_congr {C : Cfg} {fr fr' : List Value} {σ : AHeap} {o : Op} (h : ∀ t, Operand.tmp t ∈ o.operands.toList → fr.getD t undef = fr'.getD t undef) : aOp C fr σ o = aOp C fr' σ o := by
  have hx : ∀ x ∈ o.operands.toList, aev fr x = aev fr' x := fun x hx => aev_congr fun t e => h t (e ▸ hx)
  clear h
  cases o with
  | call c =>
    obtain ⟨callee, args, tys⟩ := c
    cases callee with
    | value f =>
      simp only [aOp, aCall]
      rw [hx f (by simp [Op.operands, Call.operands]), mapO_congr (fun x h => hx x (by simp [Op.operands, Call.operands]; exact .inr (by simpa using h)))]
    | invoke r m => rfl
    | builtin b =>
      have := mapO_congr (f := aev fr) (g := aev fr') (l := args.toList) (fun x h => hx x (by simp [Op.operands, Call.operands]; simpa using h))
      cases b <;> simp only [aOp, isMem, aMem, aPure, cond_true, cond_false, this]
  | makeFunc fn xs ys =>
    simp only [aOp, isMem, aPure, cond_false]
    rw [mapO_congr (l := xs.toList) (fun x h => hx x (by simp [Op.operands]; exact .inl (by simpa using h))), mapO_congr (l := ys.toList) (fun x h => hx x (by simp [Op.operands]; exact .inr (by simpa using h)))]
  | slice t x lo hi mx =>
    simp only [aOp, isMem, aPure, cond_false]
    rw [hx x (by simp [Op.operands]), optO_congr (x := lo) (fun y h => hx y (by simp [Op.operands]; exact .inr (.inl (by simpa using h)))), optO_congr (x := hi) (fun y h => hx y (by simp [Op.operands]; exact .inr (.inr (.inl (by simpa using h))))),
      optO_congr (x := mx) (fun y h => hx y (by simp [Op.operands]; exact .inr (.inr (.inr (by simpa using h)))))]
  | build t ps =>
    simp only [aOp, isMem, aMem, cond_true]
    rw [mapP_congr (l := ps.toList) (fun x h => hx x (by simpa [Op.operands] using h))]
  | buildSlice t n ps =>
    simp only [aOp, isMem, aMem, cond_true]
    rw [mapP_congr (l := ps.toList) (fun x h => hx x (by simpa [Op.operands] using h))]
  | pick c a b =>
    simp only [aOp, isMem, aPure, cond_false]
    rw [hx c (by simp [Op.operands]), hx a (by simp [Op.operands]), hx b (by simp [Op.operands])]
  | store t x y => simp only [aOp, isMem, aMem, cond_true]; rw [hx x (by simp [Op.operands]), hx y (by simp [Op.operands])]
  | makeSlice t x y => simp only [aOp, isMem, aMem, cond_true]; rw [hx x (by simp [Op.operands]), hx y (by simp [Op.operands])]
  | binOp op t x y t' => simp only [aOp, isMem, aPure, cond_false]; rw [hx x (by simp [Op.operands]), hx y (by simp [Op.operands])]
  | indexAddr t x y => simp only [aOp, isMem, aPure, cond_false]; rw [hx x (by simp [Op.operands]), hx y (by simp [Op.operands])]
  | index t x y => simp only [aOp, isMem, aPure, cond_false]; rw [hx x (by simp [Op.operands]), hx y (by simp [Op.operands])]
  | load t x => simp only [aOp, isMem, aMem, cond_true]; rw [hx x (by simp [Op.operands])]
  | box t x => simp only [aOp, isMem, aMem, cond_true]; rw [hx x (by simp [Op.operands])]
  | range t x => simp only [aOp, isMem, aMem, cond_true]; rw [hx x (by simp [Op.operands])]
  | next x b => cases b <;> simp only [aOp, isMem, aMem, cond_true]; rw [hx x (by simp [Op.operands])]
  | move x => simp only [aOp, isMem, aPure, cond_false]; rw [hx x (by simp [Op.operands])]
  | assign x => simp only [aOp, isMem, aPure, cond_false]; rw [hx x (by simp [Op.operands])]
  | nilCheck x => simp only [aOp, isMem, aPure, cond_false]; rw [hx x (by simp [Op.operands])]
  | unOp op t x => simp only [aOp, isMem, aPure, cond_false]; rw [hx x (by simp [Op.operands])]
  | convert s d x => simp only [aOp, isMem, aPure, cond_false]; rw [hx x (by simp [Op.operands])]
  | makeInterface t x => simp only [aOp, isMem, aPure, cond_false]; rw [hx x (by simp [Op.operands])]
  | fieldAddr t x f => simp only [aOp, isMem, aPure, cond_false]; rw [hx x (by simp [Op.operands])]
  | field t x f => simp only [aOp, isMem, aPure, cond_false]; rw [hx x (by simp [Op.operands])]
  | extract x i => simp only [aOp, isMem, aPure, cond_false]; rw [hx x (by simp [Op.operands])]
  | _ => rfl

/-! ### The classes -/
theorem cls0 {C : Cfg} {fr : List Value} {σ σ' : AHeap} {o : Op} {v : Value} (hc : cls C o = 0) (h : aOp C fr σ o = some (v, σ')) : σ' = σ ∧ ∀ τ, aOp C fr τ o = some (v, τ) := by
  cases o with
  | call c =>
    obtain ⟨callee, args, tys⟩ := c
    cases callee with
    | value f =>
      cases f with
      | func f =>
        simp only [cls] at hc
        cases hp : C.p f <;> rw [hp] at hc <;> simp only [cond_true, cond_false] at hc
        · cases hq : C.q f <;> rw [hq] at hc <;> simp at hc
        · simp only [aOp, aCall, aev] at h ⊢
          split at h
          · rename_i g first captured vs h1 h2
            cases h1
            rw [hp] at h
            simp only [cond_true] at h
            split at h
            · rename_i v' hg
              cases h
              refine ⟨rfl, fun τ => ?_⟩
              have hg' : C.Gp f ((#[] : Array Value).toList ++ vs ++ (#[] : Array Value).toList) = some v := hg
              first
                | (rw [h2]; simp only [hp, cond_true, hg']; done)
                | (simp only [hp, cond_true, hg']; done)
            · cases h
          · cases h
      | _ => simp [cls] at hc
    | invoke r m => simp [aOp, isMem, aPure] at h
    | builtin b =>
      cases b <;> simp only [cls] at hc <;> (try (cases hc; done)) <;>
      · simp only [aOp, isMem, cond_false] at h ⊢
        split at h
        · rename_i v' hv; cases h; exact ⟨rfl, fun τ => by first | rfl | rw [hv]⟩
        · cases h
  | build t ps =>
    simp only [aOp, isMem, aMem, cond_true] at h ⊢
    split at h
    · rename_i vs h1
      split at h
      · rename_i v' h2; cases h; exact ⟨rfl, fun τ => by first | (rw [h1]; simp only [h2]; done) | (simp only [h2]; done) | rfl⟩
      · cases h
    · cases h
  | next x b => cases b <;> simp [aOp, isMem, aMem, cls] at h hc
  | load => simp [cls] at hc
  | store => simp [cls] at hc
  | alloc => simp [cls] at hc
  | box => simp [cls] at hc
  | buildSlice => simp [cls] at hc
  | makeSlice => simp [cls] at hc
  | range => simp [cls] at hc
  | _ =>
    simp only [aOp, isMem, cond_false] at h ⊢
    split at h
    · rename_i v' hv; cases h; exact ⟨rfl, fun τ => by first | rfl | rw [hv]⟩
    · cases h

theorem cls4 {C : Cfg} (hC : C.Ok) {fr : List Value} {σ σ' : AHeap} {o : Op} {v : Value} (hc : cls C o = 4) (h : aOp C fr σ o = some (v, σ')) : σ' = σ := by
  cases o with
  | call c =>
    obtain ⟨callee, args, tys⟩ := c
    cases callee with
    | value f =>
      cases f with
      | func f =>
        simp only [cls] at hc
        cases hp : C.p f <;> rw [hp] at hc <;> simp only [cond_true, cond_false] at hc
        · cases hq : C.q f <;> rw [hq] at hc <;> simp at hc
          simp only [aOp, aCall, aev] at h
          split at h
          · rename_i g first captured vs h1 h2
            cases h1
            rw [hp] at h
            exact hC.q _ _ _ _ _ hq h
          · cases h
        · cases hc
      | _ => simp [cls] at hc
    | invoke r m => simp [cls] at hc
    | builtin b => cases b <;> simp [cls] at hc
  | _ => simp [cls] at hc

/-- What a new block's name looks like. -/
inductive Mk where
  | p
  | s (sz len cap : Nat)
def Mk.at : Mk → Nat → Value
  | .p, n => .pointer (some ⟨n, 0, none⟩)
  | .s sz len cap, n => .slice (some ⟨n, 0, some sz⟩) len cap

theorem cls3 {C : Cfg} {fr : List Value} {σ σ' : AHeap} {o : Op} {v : Value} (hc : cls C o = 3) (h : aOp C fr σ o = some (v, σ')) :
    ∃ (m : Mk) (row : AObj), v = m.at σ.length ∧ σ' = σ ++ [row] ∧ ∀ τ, aOp C fr τ o = some (m.at τ.length, τ ++ [row]) := by
  cases o with
  | alloc t =>
    simp only [aOp, isMem, aMem, cond_true] at h ⊢
    split at h
    · rename_i z hz; cases h; exact ⟨.p, _, rfl, rfl, fun τ => by first | rfl | (rw [hz]; rfl)⟩
    · cases h
  | box t x =>
    simp only [aOp, isMem, aMem, cond_true] at h ⊢
    split at h
    · rename_i v' hv; cases h; exact ⟨.p, _, rfl, rfl, fun τ => by first | rfl | (rw [hv]; rfl)⟩
    · cases h
  | buildSlice t n ps =>
    simp only [aOp, isMem, aMem, cond_true] at h ⊢
    split at h
    · rename_i vs h1
      unfold aBuildSlice at h
      split at h
      · rename_i e hu
        split at h
        · rename_i size z hs hz
          split at h
          · rename_i hcnd
            split at h
            · rename_i cells hfill
              cases h
              refine ⟨.s size n n, _, rfl, rfl, fun τ => ?_⟩
              try rw [h1]
              simp only [aBuildSlice, hu, hs, hz, hfill]
              rw [if_pos hcnd]
              rfl
            · cases h
          · cases h
        · cases h
      · cases h
    · cases h
  | makeSlice t x y =>
    simp only [aOp, isMem, aMem, cond_true] at h ⊢
    split at h
    · rename_i a b h1 h2
      unfold aMake at h
      split at h
      · rename_i e k len k' cap hu
        split at h
        · rename_i inf hi
          split at h
          · rename_i hcnd
            split at h
            · rename_i z hz
              split at h
              · rename_i hcnd2
                cases h
                refine ⟨.s inf.size len.toNat cap.toNat, _, rfl, rfl, fun τ => ?_⟩
                try rw [h1, h2]
                simp only [aMake, hu, hi, hz]
                rw [if_pos hcnd, if_pos hcnd2]
                rfl
              · cases h
            · cases h
          · cases h
        · cases h
      · cases h
    · cases h
  | call c =>
    obtain ⟨callee, args, tys⟩ := c
    cases callee with
    | value f =>
      cases f with
      | func f =>
        simp only [cls] at hc
        cases hp : C.p f <;> rw [hp] at hc <;> simp only [cond_true, cond_false] at hc
        · cases hq : C.q f <;> rw [hq] at hc <;> simp at hc
        · cases hc
      | _ => simp [cls] at hc
    | invoke r m => simp [cls] at hc
    | builtin b => cases b <;> simp [cls] at hc
  | _ => simp [cls] at hc

theorem cls1 {C : Cfg} {fr : List Value} {σ σ' : AHeap} {o : Op} {v : Value} (hc : cls C o = 1) (h : aOp C fr σ o = some (v, σ')) :
    σ' = σ ∧ ∃ t x a, o = .load t x ∧ aev fr x = some a ∧ aLoad C.P σ t a = some v := by
  cases o with
  | load t x =>
    simp only [aOp, isMem, aMem, cond_true] at h
    split at h
    · rename_i a h1
      split at h
      · rename_i v' h2; cases h; exact ⟨rfl, t, x, a, rfl, h1, h2⟩
      · cases h
    · cases h
  | call c =>
    obtain ⟨callee, args, tys⟩ := c
    cases callee with
    | value f =>
      cases f with
      | func f =>
        simp only [cls] at hc
        cases hp : C.p f <;> rw [hp] at hc <;> simp only [cond_true, cond_false] at hc
        · cases hq : C.q f <;> rw [hq] at hc <;> simp at hc
        · cases hc
      | _ => simp [cls] at hc
    | invoke r m => simp [cls] at hc
    | builtin b => cases b <;> simp [cls] at hc
  | _ => simp [cls] at hc

end Go.Lk
