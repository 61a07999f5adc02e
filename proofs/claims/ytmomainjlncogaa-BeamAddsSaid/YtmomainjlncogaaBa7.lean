import Derived.Test.YtmomainjlncogaaBa6
section
/- Calls that are shown by themselves, many at once; rounds under another configuration. -/
namespace Go.Lk
open Go.Proofs
theorem Sim.cfg {C C' : Cfg} (hP : C.P = C'.P) (hx : C.ex = C'.ex) {n0 : Nat} {c : Code} {fr fr' : List Value} {σ σ' : AHeap} {e : Exit} (h : Sim C n0 c fr σ e fr' σ') : Sim C' n0 c fr σ e fr' σ' := by
  unfold Sim at h ⊢
  rw [← hP, ← hx]
  exact h
noncomputable def manyF (f n : Nat) (A : Nat → List Value) (H : AHeap) (V : Value) (H' : AHeap) : HeapFn := fun args σ =>
  open Classical in if (∃ k, k < n ∧ args = A k) ∧ σ = H ∧ (∀ k, k < n → CallR Try.prog false f (A k) H V H') ∧ H.length ≤ H'.length then some (V, H') else none
theorem manyF_ok (f n : Nat) (A : Nat → List Value) (H : AHeap) (V : Value) (H' : AHeap) : IsHeap Try.prog false f false (manyF f n A H V H') := by
  have key : ∀ args σ v σ', manyF f n A H V H' args σ = some (v, σ') → CallR Try.prog false f args σ v σ' ∧ σ.length ≤ σ'.length := by
    intro args σ v σ' h
    unfold manyF at h
    split at h
    · rename_i hc
      obtain ⟨⟨k, hk, rfl⟩, rfl, h1, h2⟩ := hc
      cases h; exact ⟨h1 k hk, h2⟩
    · cases h
  exact ⟨fun _ _ _ _ h => (key _ _ _ _ h).1, (by intro h; cases h), fun _ _ _ _ h => (key _ _ _ _ h).2⟩
theorem manyF_at {f n : Nat} {A : Nat → List Value} {H : AHeap} {V : Value} {H' : AHeap} (h : ∀ k, k < n → CallR Try.prog false f (A k) H V H') (hl : H.length ≤ H'.length) {k : Nat} (hk : k < n) : manyF f n A H V H' (A k) H = some (V, H') := by
  unfold manyF
  rw [if_pos ⟨⟨k, hk, rfl⟩, rfl, h, hl⟩]
end Go.Lk
end

section
/- Form, its table's rows each in a block of its own: its contract. -/
namespace Go.Lk
open Go.Proofs
set_option maxRecDepth 100000
set_option maxHeartbeats 0
set_option linter.unusedVariables false
set_option linter.unusedSimpArgs false
theorem app_left {σ τ : AHeap} {b : Nat} {o : AObj} (h : σ[b]? = some o) : (σ ++ τ)[b]? = some o := by
  rw [List.getElem?_append_left (lt_of_some h)]; exact h
theorem app_at {σ τ : AHeap} {b j : Nat} {o : AObj} (h : τ[j]? = some o) (hb : b = σ.length + j) : (σ ++ τ)[b]? = some o := by
  subst hb
  rw [List.getElem?_append_right (by omega), show σ.length + j - σ.length = j by omega]; exact h
theorem app_set {σ τ τ' : AHeap} {b j : Nat} {o : AObj} (hb : b = σ.length + j) (h : τ.set j o = τ') : (σ ++ τ).set b o = σ ++ τ' := by
  subst hb
  rw [List.set_append_right _ _ (by omega), show σ.length + j - σ.length = j by omega, h]
def frT (f : Nat → Nat) (N : Nat) (rw' : Bool) (opn : Option Nat) : AObj := .row (rowOf (fun q => [.slice (some ⟨f q, 0, some 1⟩) 2 2]) N) rw' opn
theorem ld_tab {σ : AHeap} {t N k : Nat} {f : Nat → Nat} {rw' : Bool} {opn : Option Nat} (hT : σ[t]? = some (frT f N rw' opn)) (hk : k < N) : aLoad Try.prog σ 66 (.pointer (some ⟨t, 0 + k * 1, none⟩)) = some (.slice (some ⟨f k, 0, some 1⟩) 2 2) :=
  load_one (g := fun q => .slice (some ⟨f q, 0, some 1⟩) 2 2) hT (by kernel_rfl) (by omega) hk
theorem ld_tab0 {σ : AHeap} {t N : Nat} {f : Nat → Nat} {rw' : Bool} {opn : Option Nat} (hT : σ[t]? = some (frT f N rw' opn)) (hk : 0 < N) : aLoad Try.prog σ 66 (.pointer (some ⟨t, 0, none⟩)) = some (.slice (some ⟨f 0, 0, some 1⟩) 2 2) :=
  load_one (k := 0) (g := fun q => .slice (some ⟨f q, 0, some 1⟩) 2 2) hT (by kernel_rfl) (by omega) hk
theorem ld_box {σ : AHeap} {b : Nat} {v : Value} {ty : Nat} (h : σ[b]? = some (.row [v] true none)) (hd : (Try.prog.underlying ty).map isAggD = some false) : aLoad Try.prog σ ty (.pointer (some ⟨b, 0, none⟩)) = some v :=
  load_one (k := 0) (n := 1) (g := fun _ => v) h hd (by omega) (by omega)
section
variable (σ : AHeap) (t n : Nat) (f : Nat → Nat) (N : Nat) (rw' : Bool) (opn : Option Nat) (h0 : 0 < n) (hn : n ≤ 64) (hN : n ≤ N)
def tbS (t n : Nat) : Value := .slice (some ⟨t, 0, some 1⟩) n n
def tbBox (t n : Nat) : AObj := .row [tbS t n] true none
include h0 hn hN
theorem tb_204 (bx : Nat) (hT : σ[t]? = some (frT f N rw' opn)) (hb : σ[bx]? = some (tbBox t n)) (k : Nat) (hk : k < n) : CallR Try.prog false 204 [.slice (some ⟨f k, 0, some 1⟩) 2 2, .pointer (some ⟨bx, 0, none⟩)] σ (.bool false) σ :=
  vb4_p0 σ t bx n f h0 hn k hk (ld_tab0 hT (by omega)) (ld_box hb (by kernel_rfl))
theorem tb_214 (bx : Nat) (hT : σ[t]? = some (frT f N rw' opn)) (hb : σ[bx]? = some (tbBox t n)) : CallR Try.prog false 214 [tbS t n, .func (.func 204) #[] #[.pointer (some ⟨bx, 0, none⟩)]] σ (.int .i64 (-1)) σ := by
  have hm : ∀ k, k < n → CallR Try.prog false 204 [.slice (some ⟨f k, 0, some 1⟩) 2 2, .pointer (some ⟨bx, 0, none⟩)] σ (.bool false) σ := tb_204 σ t n f N rw' opn h0 hn hN bx hT hb
  refine vb5C_p0 (manyF 204 n (fun k => [.slice (some ⟨f k, 0, some 1⟩) 2 2, .pointer (some ⟨bx, 0, none⟩)]) σ (.bool false) σ) (manyF_ok 204 n _ σ (.bool false) σ) σ t bx n f h0 hn (fun hst => ?_)
  have h : Sim (dvbb (manyF 204 n (fun k => [.slice (some ⟨f k, 0, some 1⟩) 2 2, .pointer (some ⟨bx, 0, none⟩)]) σ (.bool false) σ)) σ.length (.loop (loopOf Try.f214 0)) _ σ (.exit 0) _ σ :=
    Sim.loop (fun k => ([.slice (some ⟨t, 0, some 1⟩) n n, .func (.func 204) #[] #[.pointer (some ⟨bx, 0, none⟩)], undef, undef, .int .i64 0, undef, undef, .int .i64 (iN n), .int .i64 (iN k)] ++ List.replicate 10 undef, σ)) n
      (fun k hk => (vb5_p0 _ (manyF_ok 204 n _ σ (.bool false) σ) σ t bx n f h0 hn k hk (manyF_at hm (Nat.le_refl _) hk) (ld_tab hT (by omega)) hst.none).1.cast (by kernel_rfl) rfl (by kernel_rfl) rfl)
      ((vb5E_p0 _ (manyF_ok 204 n _ σ (.bool false) σ) σ t bx n f h0 hn hst.none).1) rfl
  exact (h.enter ([true, true, false, false, true, false, false, true, true] ++ List.replicate 10 false) (by kernel_rfl)).cast rfl rfl (by kernel_rfl) rfl
theorem tb_203 (bx : Nat) (hT : σ[t]? = some (frT f N rw' opn)) (hb : σ[bx]? = some (tbBox t n)) : CallR Try.prog false 203 [tbS t n, .func (.func 204) #[] #[.pointer (some ⟨bx, 0, none⟩)]] σ (.bool false) σ :=
  vb3C_p0 (oneF 214 _ σ (.int .i64 (-1)) σ) (oneF_ok 214 _ σ (.int .i64 (-1)) σ) σ t bx n f h0 hn (oneF_at (tb_214 σ t n f N rw' opn h0 hn hN bx hT hb) (Nat.le_refl _))
theorem tb_176 (hT : σ[t]? = some (frT f N rw' opn)) : CallR Try.prog false 176 [tbS t n] σ (.int .i64 0) (σ ++ [tbBox t n]) := by
  have hT' : (σ ++ [tbBox t n])[t]? = some (frT f N rw' opn) := app_left hT
  have hb : (σ ++ [tbBox t n])[σ.length]? = some (tbBox t n) := app_at (j := 0) rfl (by omega)
  have hx := ld_box (ty := 101) hb (by kernel_rfl)
  refine vb6C_p0 (oneF 203 _ (σ ++ [tbBox t n]) (.bool false) (σ ++ [tbBox t n])) (oneF_ok 203 _ _ (.bool false) _) σ t 0 n f h0 hn (by rw [Nat.mul_comm]; simp) (by rw [iN_eq]; exact beq_false_of_ne (by show ((n : Nat) : Int) ≠ 0; omega))
    (oneF_at (tb_203 (σ ++ [tbBox t n]) t n f N rw' opn h0 hn hN σ.length hT' hb) (Nat.le_refl _)) hx (ld_tab0 hT' (by omega)) hx hx hx hx (fun hst => ?_) hx
  have h : Sim dLBbh (σ ++ [tbBox t n]).length (.loop (loopOf Try.f176 0)) _ (σ ++ [tbBox t n]) (.exit 0) _ (σ ++ [tbBox t n]) :=
    Sim.loop (fun k => ([undef, .pointer (some ⟨σ.length, 0, none⟩), .int .i64 0, .int .i64 (iN (2 * k)), undef, undef, .slice (some ⟨t, 0, some 1⟩) n n, .int .i64 (iN n), .int .i64 (iN k)] ++ List.replicate 33 undef, σ ++ [tbBox t n])) n
      (fun k hk => (vb6_p0 (σ ++ [tbBox t n]) t σ.length n f h0 hn k hk (ld_tab hT' (by omega)) hst.none).1.cast (by kernel_rfl) rfl (by kernel_rfl) rfl)
      ((vb6E_p0 (σ ++ [tbBox t n]) t σ.length n f h0 hn hst.none).1) rfl
  exact ((Sim.cfg (C' := dvbd _) rfl rfl h).enter ([false, true, true, true, false, false, true, true, true] ++ List.replicate 33 false) (by kernel_rfl)).cast rfl rfl (by kernel_rfl) rfl
end
end Go.Lk
end

section
/- Form, its table's rows each in a block of its own: formed. -/
namespace Go.Lk
open Go.Proofs
set_option maxRecDepth 100000
set_option maxHeartbeats 0
set_option linter.unusedVariables false
set_option linter.unusedSimpArgs false
def fmR (x y : Nat → Nat → Nat) (wr wi : Nat → Nat) (i k : Nat) : Nat := nMul_0 (x k i) (y k i) (wr k) (nCj_0 (wr k) (wi k))
def fmI (x y : Nat → Nat → Nat) (wr wi : Nat → Nat) (i k : Nat) : Nat := nMul_1 (x k i) (y k i) (wr k) (nCj_0 (wr k) (wi k))
/-- What is formed at a sample. -/
def foR (x y : Nat → Nat → Nat) (wr wi : Nat → Nat) (n i : Nat) : Nat := sumC (fmR x y wr wi i) n
def foI (x y : Nat → Nat → Nat) (wr wi : Nat → Nat) (n i : Nat) : Nat := sumC (fmI x y wr wi i) n
def fmG (x y : Nat → Nat → Nat) (wr wi : Nat → Nat) (i k : Nat) : List Value := [.complex .f64 (fmR x y wr wi i k) (fmI x y wr wi i k)]
def foG (x y : Nat → Nat → Nat) (wr wi : Nat → Nat) (n i : Nat) : List Value := [.complex .f64 (foR x y wr wi n i) (foI x y wr wi n i)]
def zrG (_ : Nat) : List Value := [.complex .f64 0 0]
def fmRow (x y : Nat → Nat → Nat) (wr wi : Nat → Nat) (n i k : Nat) : AObj := .row (rowOf (half2 (fmG x y wr wi i) zrG k) n) true none
def foRow (x y : Nat → Nat → Nat) (wr wi : Nat → Nat) (n i : Nat) : AObj := .row (rowOf (half2 (foG x y wr wi n) zrG i) 2) true none
/-- The blocks that Form makes: its box, what is formed, the terms. -/
def fmTl (t : Nat) (x y : Nat → Nat → Nat) (wr wi : Nat → Nat) (n i : Nat) : AHeap := tbBox t n :: foRow x y wr wi n i :: (List.range i).map fun j => fmRow x y wr wi n j n
theorem fmTl_len (t : Nat) (x y : Nat → Nat → Nat) (wr wi : Nat → Nat) (n i : Nat) : (fmTl t x y wr wi n i).length = i + 2 := by simp [fmTl]
def fm7 (t wb ob tb n i k : Nat) : List Value := [.slice (some ⟨t, 0, some 1⟩) n n, .slice (some ⟨wb, 0, some 1⟩) n n, undef, undef, .slice none 0 0, .int .i64 0, undef, .slice (some ⟨ob, 0, some 1⟩) 2 2, .int .i64 (iN i), .slice (some ⟨tb, 0, some 1⟩) n n] ++ List.replicate 17 undef ++ [.int .i64 2, .int .i64 (iN i)] ++ List.replicate 6 undef ++ [.int .i64 (iN n), .int .i64 (iN k)] ++ List.replicate 26 undef
def fm8 (t wb ob n i : Nat) : List Value := [.slice (some ⟨t, 0, some 1⟩) n n, .slice (some ⟨wb, 0, some 1⟩) n n, undef, undef, .slice none 0 0, .int .i64 0, undef, .slice (some ⟨ob, 0, some 1⟩) 2 2] ++ List.replicate 19 undef ++ [.int .i64 2, .int .i64 (iN i)] ++ List.replicate 34 undef
section
variable (σ : AHeap) (t wb n : Nat) (f : Nat → Nat) (x y : Nat → Nat → Nat) (wr wi : Nat → Nat) (N : Nat) (rw' rw2 : Bool) (opn opn2 : Option Nat) (h0 : 0 < n) (hn : n ≤ 64) (hN : n ≤ N)
  (hT : σ[t]? = some (frT f N rw' opn)) (NW : Nat) (hNW : n ≤ NW) (hW : σ[wb]? = some (.row (rowOf (fun k => [.complex .f64 (wr k) (wi k)]) NW) rw2 opn2))
  (hX : ∀ k, k < n → ∃ rw3 opn3, σ[f k]? = some (.row (rowOf (fun i => [.complex .f64 (x k i) (y k i)]) 2) rw3 opn3))
include h0 hn hN hT hNW hW hX
theorem fm_in (τ : AHeap) (ob tb i : Nat) (hi : i < 2) (htb : tb = (σ ++ τ).length) (hst : Stood false []) :
    Sim dLBbh (σ ++ τ ++ [fmRow x y wr wi n i 0]).length (.loop (loopOf Try.f113 1)) (fm7 t wb ob tb n i 0) (σ ++ τ ++ [fmRow x y wr wi n i 0]) (.exit 2) (fm7 t wb ob tb n i n) (σ ++ τ ++ [fmRow x y wr wi n i n]) := by
  refine Sim.loop (fun k => (fm7 t wb ob tb n i k, σ ++ τ ++ [fmRow x y wr wi n i k])) n (fun k hk => ?_) ?_ rfl
  · obtain ⟨rw3, opn3, hx⟩ := hX k hk
    have hl : (σ ++ τ ++ [fmRow x y wr wi n i k]).length = (σ ++ τ ++ [fmRow x y wr wi n i 0]).length := by simp
    have hrow : (σ ++ τ ++ [fmRow x y wr wi n i k])[tb]? = some (fmRow x y wr wi n i k) := app_at (j := 0) rfl (by omega)
    have hs := (vb7_p0 (σ ++ τ ++ [fmRow x y wr wi n i k]) t wb ob tb n f x y wr wi h0 hn (σ ++ τ ++ [fmRow x y wr wi n i (k + 1)]) i hi k hk
      ((store_row (z := 1) (k := k) (f := half2 (fmG x y wr wi i) zrG k) (g := half2 (fmG x y wr wi i) zrG (k + 1)) hrow (by kernel_rfl) (half2_len (s := 1) (fun _ => rfl) (fun _ => rfl) _) (half2_len (s := 1) (fun _ => rfl) (fun _ => rfl) _) (by rw [half2_at]; rfl) (by rw [half2_at]; rfl) (by omega) hk (fun i h => half2_ne _ _ _ i h)).trans
        (congrArg some (app_set (j := 0) (by omega) rfl)))
      (load_one (g := fun k => .complex .f64 (wr k) (wi k)) (app_left (app_left hW)) (by kernel_rfl) (by omega) (by omega))
      (load_one (g := fun i => .complex .f64 (x k i) (y k i)) (app_left (app_left hx)) (by kernel_rfl) (by omega) hi)
      (ld_tab (app_left (app_left hT)) (by omega)) hst).1
    rw [hl] at hs
    exact hs.cast (by kernel_rfl) rfl (by kernel_rfl) rfl
  · have hl : (σ ++ τ ++ [fmRow x y wr wi n i n]).length = (σ ++ τ ++ [fmRow x y wr wi n i 0]).length := by simp
    have hs := (vb7E_p0 (σ ++ τ ++ [fmRow x y wr wi n i n]) t wb ob tb n f x y wr wi h0 hn i hi hst).1
    rw [hl] at hs
    exact hs.cast (by kernel_rfl) rfl (by kernel_rfl) rfl
theorem fm_out (i : Nat) (hi : i < 2) (hst : Stood false []) :
    Sim dLBbh (σ.length + 2) (loopOf Try.f113 0) (fm8 t wb (σ.length + 1) n i) (σ ++ fmTl t x y wr wi n i) .normal (fm8 t wb (σ.length + 1) n (i + 1)) (σ ++ fmTl t x y wr wi n (i + 1)) := by
  have hlen : (σ ++ fmTl t x y wr wi n i).length = σ.length + (i + 2) := by rw [List.length_append, fmTl_len]
  have hterm : (σ ++ fmTl t x y wr wi n i ++ [fmRow x y wr wi n i n])[(σ ++ fmTl t x y wr wi n i).length]? = some (.row (rowOf (half2 (fmG x y wr wi i) zrG n) n) true none) := app_at (j := 0) rfl (by omega)
  have hout : (σ ++ fmTl t x y wr wi n i ++ [fmRow x y wr wi n i n])[σ.length + 1]? = some (foRow x y wr wi n i) := app_left (app_at (j := 1) rfl rfl)
  have hs := (vb8_p0 (σ ++ fmTl t x y wr wi n i) t wb (σ.length + 1) (σ ++ fmTl t x y wr wi n i).length n f x y wr wi h0 hn (σ ++ fmTl t x y wr wi n i ++ [fmRow x y wr wi n i 0]) (σ ++ fmTl t x y wr wi n i ++ [fmRow x y wr wi n i n]) (σ ++ fmTl t x y wr wi n (i + 1)) (foR x y wr wi n i) (foI x y wr wi n i) i hi (by simp)
    ((store_row (z := 1) (k := i) (f := half2 (foG x y wr wi n) zrG i) (g := half2 (foG x y wr wi n) zrG (i + 1)) hout (by kernel_rfl) (half2_len (s := 1) (fun _ => rfl) (fun _ => rfl) _) (half2_len (s := 1) (fun _ => rfl) (fun _ => rfl) _) (by rw [half2_at]; rfl) (by rw [half2_at]; rfl) (by omega) hi (fun i h => half2_ne _ _ _ i h)).trans
      (congrArg some (by
        rw [List.append_assoc]
        refine app_set (j := 1) rfl ?_
        unfold fmTl
        rw [List.range_succ, List.map_append]
        rfl)))
    (by
      refine sSum_row (x := fmR x y wr wi i) (y := fmI x y wr wi i) hterm (fun j hj => ?_) (half2_len (s := 1) (fun _ => rfl) (fun _ => rfl) _) (Nat.le_refl _) (by omega) (Nat.le_refl _) (fun j hj => ?_)
      · unfold half2; cases Nat.blt j n <;> exact ⟨rfl, rfl⟩
      · unfold half2
        rw [show Nat.blt j n = true from by rw [Nat.blt_eq]; exact hj]; rfl)
    (fun hst => ((fm_in σ t wb n f x y wr wi N rw' rw2 opn opn2 h0 hn hN hT NW hNW hW hX (fmTl t x y wr wi n i) (σ.length + 1) (σ ++ fmTl t x y wr wi n i).length i hi rfl hst).enter ([true, true, false, false, true, true, false, true, true, true] ++ List.replicate 17 false ++ [true, true] ++ List.replicate 6 false ++ [true, true] ++ List.replicate 26 false) (by kernel_rfl)).cast rfl rfl (by kernel_rfl) rfl)
    (by
      have := make_row (P := Try.prog) (σ := σ ++ fmTl t x y wr wi n i) (t := 66) (zs := [Value.complex .f64 0 0]) (k := .i64) (k' := .i64) (l := n) (N := n) (by kernel_rfl) (by kernel_rfl) (by kernel_rfl) (Nat.le_refl _) (by omega)
      rw [this]
      have e : fmRow x y wr wi n i 0 = .row (rowOf (fun _ => [Value.complex .f64 0 0]) n) true none := by unfold fmRow; rw [half2_zero]; rfl
      rw [e]; rfl) hst).1
  exact (hs.le (by omega)).cast (by kernel_rfl) rfl (by kernel_rfl) rfl
/-- Form of a table of n elements of two samples. -/
theorem form_any : CallR Try.prog false 113 [.slice (some ⟨t, 0, some 1⟩) n n, .slice (some ⟨wb, 0, some 1⟩) n n] σ (.tuple #[.slice (some ⟨σ.length + 1, 0, some 1⟩) 2 2, .int .i64 0]) (σ ++ fmTl t x y wr wi n 2) := by
  have h1 := tb_176 σ t n f N rw' opn h0 hn hN hT
  have hT' : (σ ++ [tbBox t n])[t]? = some (frT f N rw' opn) := app_left hT
  refine vb9_p0 (oneF 176 _ σ (.int .i64 0) (σ ++ [tbBox t n])) (oneF_ok 176 _ σ (.int .i64 0) _) σ t wb (σ.length + 1) 0 n f x y wr wi h0 hn (σ ++ [tbBox t n]) (σ ++ fmTl t x y wr wi n 0) (σ ++ fmTl t x y wr wi n 2) (by simp) (by simp [fmTl_len]) (fun hst => ?_) ?_ (ld_tab0 hT' (by omega)) (oneF_at h1 (by simp))
  · have h : Sim dLBbh (σ.length + 2) (.loop (loopOf Try.f113 0)) (fm8 t wb (σ.length + 1) n 0) (σ ++ fmTl t x y wr wi n 0) (.exit 0) (fm8 t wb (σ.length + 1) n 2) (σ ++ fmTl t x y wr wi n 2) :=
      Sim.loop (fun i => (fm8 t wb (σ.length + 1) n i, σ ++ fmTl t x y wr wi n i)) 2 (fun i hi => fm_out σ t wb n f x y wr wi N rw' rw2 opn opn2 h0 hn hN hT NW hNW hW hX i hi hst.none)
        (((vb8E_p0 (σ ++ fmTl t x y wr wi n 2) t wb (σ.length + 1) 0 n f x y wr wi h0 hn hst.none).1.le (by rw [List.length_append, fmTl_len]; omega)).cast (by kernel_rfl) rfl (by kernel_rfl) rfl) rfl
    have hl : (σ ++ fmTl t x y wr wi n 0).length = σ.length + 2 := by rw [List.length_append, fmTl_len]
    rw [hl]
    exact ((Sim.cfg (C' := dvbe _) rfl rfl h).enter ([true, true, false, false, true, true, false, true] ++ List.replicate 19 false ++ [true, true] ++ List.replicate 34 false) (by kernel_rfl)).cast rfl rfl (by kernel_rfl) rfl
  · have := make_row (P := Try.prog) (σ := σ ++ [tbBox t n]) (t := 66) (zs := [Value.complex .f64 0 0]) (k := .i64) (k' := .i64) (l := 2) (N := 2) (by kernel_rfl) (by kernel_rfl) (by kernel_rfl) (Nat.le_refl _) (by omega)
    refine Eq.trans (by kernel_rfl) (this.trans ?_)
    have hl : (σ ++ [tbBox t n]).length = σ.length + 1 := by simp
    rw [hl, List.append_assoc]
    have e : fmTl t x y wr wi n 0 = [tbBox t n, .row (rowOf (fun _ => [Value.complex .f64 0 0]) 2) true none] := by unfold fmTl foRow; rw [half2_zero]; rfl
    rw [e]; rfl
end
end Go.Lk
end

section
/- BeamAdds: its rounds and paths. -/
namespace Go.Lk
open Go.Proofs
set_option maxRecDepth 100000
set_option maxHeartbeats 0
set_option linter.unusedVariables false
set_option linter.unusedSimpArgs false
-- closed rows
-- no trees
noncomputable def tba : Tab := (tbbh.addP 112 sWakes22)
theorem tba_ok : tba.Ok Try.prog false := (Tab.Ok.addP tbbh_ok sWakes22_ok)
noncomputable def LBa : Lib := ⟨Try.prog, false, tba, [(114, Try.f114)], []⟩
theorem LBa_fp : ∀ e, e ∈ LBa.pures → Try.prog.funcs[e.1]? = some e.2 := fs_cons Try.func114 (fs_nil)
theorem LBa_fh : ∀ e, e ∈ LBa.heaps → Try.prog.funcs[e.1]? = some e.2.2 := gs_nil
theorem LBa_p1 (gp : Nat → PureFn) (g : Nat → HeapFn) : (LBa.pures.all fun e => fnOk (LBa.mk' gp g) e.2) = true := by kernel_rfl
theorem LBa_h1 (gp : Nat → PureFn) (g : Nat → HeapFn) : (LBa.heaps.all fun e => fnOk (LBa.mk' gp g) e.2.2 && (!e.2.1 || fnRo (LBa.mk' gp g) e.2.2)) = true := by kernel_rfl
theorem LBa_ok : LBa.Ok := ⟨tba_ok, mixed, LBa_fp, LBa_fh, LBa_p1, LBa_h1⟩
noncomputable def dLBa : Cfg := LBa.cfg 100 6
theorem dLBa_ok : dLBa.Ok := LBa_ok.cfg 100 6

def wh (a : Int) : Nat := FloatKind.f64.nearest (Int.tmod a (Int.ofNat 524288))
def baF (n1 c1 n2 c2 n c3 : Nat) (A B C V : Option Addr) (i : Nat) : List Value := [.slice (some ⟨0, 0, some 2⟩) n1 c1, .slice (some ⟨1, 0, some 2⟩) n2 c2, .slice (some ⟨2, 0, some 2⟩) n c3, undef, undef, undef, .bool false, .slice A i i, .slice B i i, .slice C i i, .slice V i i, .int .i64 (iN i)] ++ List.replicate 145 undef
theorem ba1_okX : codeOkX (dLBa) [] (loopOf Try.f26 0) = true := by kernel_rfl
theorem ba1_p0 (σ : AHeap) (p : Nat → Int) (q : Nat → Int) (r : Nat → Int) (s : Nat → Int) (u : Nat → Int) (v : Nat → Int) (n1 : Nat) (c1 : Nat) (n2 : Nat) (c2 : Nat) (n : Nat) (c3 : Nat) (h0 : 0 < n) (hn : n ≤ 64) (hn1 : n ≤ n1) (hn2 : n ≤ n2) (A : Option Addr) (B : Option Addr) (C : Option Addr) (V : Option Addr) (A2 : Option Addr) (B2 : Option Addr) (C2 : Option Addr) (V2 : Option Addr) (L : Nat) (σ1 : AHeap) (σ2 : AHeap) (σ3 : AHeap) (σ4 : AHeap) (σ5 : AHeap) (σ6 : AHeap) (σ7 : AHeap) (σ8 : AHeap) (σ9 : AHeap) (σ10 : AHeap) (σ11 : AHeap) (i : Nat) (hi : i < n) (s0 : aAppend Try.prog (σ10) [66, 66] ([Value.slice V i i, Value.slice (some { block := L + 9, off := 0, spot := some 1 }) 1 1]) = some (Value.slice V2 (i + 1) (i + 1), σ11)) (s1 : some (Value.slice (some { block := List.length σ9, off := 0, spot := some 1 }) 1 1, σ9 ++ [AObj.row [Value.complex .f64 (FloatKind.f64.nearest ((u i).tmod (Int.ofNat 524288))) (FloatKind.f64.nearest ((v i).tmod (Int.ofNat 524288)))] true none]) = some (Value.slice (some { block := L + 9, off := 0, spot := some 1 }) 1 1, σ10)) (s2 : aLoad Try.prog (σ9) 128 (Value.pointer (some { block := 2, off := 0 + i * 2 })) = some (Value.agg #[Value.int .i64 (u i), Value.int .i64 (v i)])) (s3 : aAppend Try.prog (σ8) [101, 101] ([Value.slice C i i, Value.slice (some { block := L + 7, off := 0, spot := some 1 }) 1 1]) = some (Value.slice C2 (i + 1) (i + 1), σ9)) (s4 : some (Value.slice (some { block := List.length σ7, off := 0, spot := some 1 }) 1 1, σ7 ++ [AObj.row [Value.slice (some { block := L + 6, off := 0, spot := some 1 }) 2 2] true none]) = some (Value.slice (some { block := L + 7, off := 0, spot := some 1 }) 1 1, σ8)) (s5 : some (Value.slice (some { block := List.length σ6, off := 0, spot := some 1 }) 2 2, σ6 ++ [AObj.row [Value.complex .f64 (fadd (FloatKind.f64.nearest ((p i).tmod (Int.ofNat 524288))) (FloatKind.f64.nearest ((r i).tmod (Int.ofNat 524288)))) (fadd (FloatKind.f64.nearest ((q i).tmod (Int.ofNat 524288))) (FloatKind.f64.nearest ((s i).tmod (Int.ofNat 524288)))), Value.complex .f64 (fadd (FloatKind.f64.nearest ((r i).tmod (Int.ofNat 524288))) 4607182418800017408) (fadd (FloatKind.f64.nearest ((s i).tmod (Int.ofNat 524288))) 0)] true none]) = some (Value.slice (some { block := L + 6, off := 0, spot := some 1 }) 2 2, σ7)) (s6 : aAppend Try.prog (σ5) [101, 101] ([Value.slice B i i, Value.slice (some { block := L + 4, off := 0, spot := some 1 }) 1 1]) = some (Value.slice B2 (i + 1) (i + 1), σ6)) (s7 : some (Value.slice (some { block := List.length σ4, off := 0, spot := some 1 }) 1 1, σ4 ++ [AObj.row [Value.slice (some { block := L + 3, off := 0, spot := some 1 }) 2 2] true none]) = some (Value.slice (some { block := L + 4, off := 0, spot := some 1 }) 1 1, σ5)) (s8 : some (Value.slice (some { block := List.length σ3, off := 0, spot := some 1 }) 2 2, σ3 ++ [AObj.row [Value.complex .f64 (FloatKind.f64.nearest ((r i).tmod (Int.ofNat 524288))) (FloatKind.f64.nearest ((s i).tmod (Int.ofNat 524288))), Value.complex .f64 4607182418800017408 0] true none]) = some (Value.slice (some { block := L + 3, off := 0, spot := some 1 }) 2 2, σ4)) (s9 : aAppend Try.prog (σ2) [101, 101] ([Value.slice A i i, Value.slice (some { block := L + 1, off := 0, spot := some 1 }) 1 1]) = some (Value.slice A2 (i + 1) (i + 1), σ3)) (s10 : some (Value.slice (some { block := List.length σ1, off := 0, spot := some 1 }) 1 1, σ1 ++ [AObj.row [Value.slice (some { block := L + 0, off := 0, spot := some 1 }) 2 2] true none]) = some (Value.slice (some { block := L + 1, off := 0, spot := some 1 }) 1 1, σ2)) (s11 : some (Value.slice (some { block := List.length σ, off := 0, spot := some 1 }) 2 2, σ ++ [AObj.row [Value.complex .f64 (FloatKind.f64.nearest ((p i).tmod (Int.ofNat 524288))) (FloatKind.f64.nearest ((q i).tmod (Int.ofNat 524288))), Value.complex .f64 (FloatKind.f64.nearest ((r i).tmod (Int.ofNat 524288))) (FloatKind.f64.nearest ((s i).tmod (Int.ofNat 524288)))] true none]) = some (Value.slice (some { block := L + 0, off := 0, spot := some 1 }) 2 2, σ1)) (s12 : aLoad Try.prog (σ) 128 (Value.pointer (some { block := 1, off := 0 + i * 2 })) = some (Value.agg #[Value.int .i64 (r i), Value.int .i64 (s i)])) (s13 : aLoad Try.prog (σ) 128 (Value.pointer (some { block := 0, off := 0 + i * 2 })) = some (Value.agg #[Value.int .i64 (p i), Value.int .i64 (q i)])) (hst : Stood false ([])) : Sim (dLBa) (List.length (α := AObj) (σ)) (loopOf Try.f26 0) ((baF n1 c1 n2 c2 n c3 A B C V i)) (σ) .normal ([Value.slice (some ⟨0, 0, some 2⟩) n1 c1, Value.slice (some ⟨1, 0, some 2⟩) n2 c2, Value.slice (some ⟨2, 0, some 2⟩) n c3, undef, undef, undef, Value.bool false, Value.slice A2 (i + 1) (i + 1), Value.slice B2 (i + 1) (i + 1), Value.slice C2 (i + 1) (i + 1), Value.slice V2 (i + 1) (i + 1), Value.int .i64 (iN (i + 1)), undef, undef, undef, undef, undef, undef, undef, undef, undef, undef, undef, undef, undef, undef, undef, undef, undef, undef, undef, undef, undef, undef, undef, undef, undef, undef, undef, undef, undef, undef, undef, undef, undef, undef, undef, undef, undef, undef, undef, undef, undef, undef, undef, undef, undef, undef, undef, undef, undef, undef, undef, undef, undef, undef, undef, undef, undef, undef, undef, undef, undef, undef, undef, undef, undef, undef, undef, undef, undef, undef, undef, undef, undef, undef, undef, undef, undef, undef, undef, undef, undef, undef, undef, undef, undef, undef, undef, undef, undef, undef, undef, undef, undef, undef, undef, undef, undef, undef, undef, undef, undef, undef, undef, undef, undef, undef, undef, undef, undef, undef, undef, undef, undef, undef, undef, undef, undef, undef, undef, undef, undef, undef, undef, undef, undef, undef, undef, undef, undef, undef, undef, undef, undef, undef, undef, undef, undef, undef, undef, undef, undef, undef, undef, undef, undef]) (σ11) ∧ List.length (α := AObj) (σ) ≤ List.length (α := AObj) (σ11) := Sim.of_roundV (C := dLBa) dLBa_ok (X := []) (n := 3) (orc := [(8, Item.br true), (14, Item.res (Value.pointer (some { block := 0, off := 0 + i * 2 }))), (16, Item.eff (Value.agg #[Value.int .i64 (p i), Value.int .i64 (q i)]) σ), (26, Item.res (Value.pointer (some { block := 1, off := 0 + i * 2 }))), (28, Item.eff (Value.agg #[Value.int .i64 (r i), Value.int .i64 (s i)]) σ), (40, Item.eff (Value.slice (some { block := L + 0, off := 0, spot := some 1 }) 2 2) σ1), (42, Item.eff (Value.slice (some { block := L + 1, off := 0, spot := some 1 }) 1 1) σ2), (44, Item.eff (Value.slice A2 (i + 1) (i + 1)) σ3), (52, Item.eff (Value.slice (some { block := L + 3, off := 0, spot := some 1 }) 2 2) σ4), (54, Item.eff (Value.slice (some { block := L + 4, off := 0, spot := some 1 }) 1 1) σ5), (56, Item.eff (Value.slice B2 (i + 1) (i + 1)) σ6), (72, Item.eff (Value.slice (some { block := L + 6, off := 0, spot := some 1 }) 2 2) σ7), (74, Item.eff (Value.slice (some { block := L + 7, off := 0, spot := some 1 }) 1 1) σ8), (76, Item.eff (Value.slice C2 (i + 1) (i + 1)) σ9), (86, Item.res (Value.pointer (some { block := 2, off := 0 + i * 2 }))), (88, Item.eff (Value.agg #[Value.int .i64 (u i), Value.int .i64 (v i)]) σ9), (92, Item.eff (Value.slice (some { block := L + 9, off := 0, spot := some 1 }) 1 1) σ10), (94, Item.eff (Value.slice V2 (i + 1) (i + 1)) σ11), (100, Item.res (Value.int .i64 (iN (i + 1))))]) (mask := [true, true, true, false, false, false, true, true, true, true, true, true, false, false, false, false, false, false, false, false, false, false, false, false, false, false, false, false, false, false, false, false, false, false, false, false, false, false, false, false, false, false, false, false, false, false, false, false, false, false, false, false, false, false, false, false, false, false, false, false, false, false, false, false, false, false, false, false, false, false, false, false, false, false, false, false, false, false, false, false, false, false, false, false, false, false, false, false, false, false, false, false, false, false, false, false, false, false, false, false, false, false, false, false, false, false, false, false, false, false, false, false, false, false, false, false, false, false, false, false, false, false, false, false, false, false, false, false, false, false, false, false, false, false, false, false, false, false, false, false, false, false, false, false, false, false, false, false, false, false, false, false, false, false, false, false, false]) (ps := [(some (decide (iN i < iN n)) = some true), (ixF (Value.pointer (some { block := 0, off := 0 + i * 2 })) (σ) (iN i) (n1) = some (Value.pointer (some { block := 0, off := 0 + i * 2 }), σ)), (ldF (aLoad Try.prog (σ) 128 (Value.pointer (some { block := 0, off := 0 + i * 2 }))) (σ) = some (Value.agg #[Value.int .i64 (p i), Value.int .i64 (q i)], σ)), (ixF (Value.pointer (some { block := 1, off := 0 + i * 2 })) (σ) (iN i) (n2) = some (Value.pointer (some { block := 1, off := 0 + i * 2 }), σ)), (ldF (aLoad Try.prog (σ) 128 (Value.pointer (some { block := 1, off := 0 + i * 2 }))) (σ) = some (Value.agg #[Value.int .i64 (r i), Value.int .i64 (s i)], σ)), (some (Value.slice (some { block := List.length σ, off := 0, spot := some 1 }) 2 2, σ ++ [AObj.row [Value.complex .f64 (FloatKind.f64.nearest ((p i).tmod (Int.ofNat 524288))) (FloatKind.f64.nearest ((q i).tmod (Int.ofNat 524288))), Value.complex .f64 (FloatKind.f64.nearest ((r i).tmod (Int.ofNat 524288))) (FloatKind.f64.nearest ((s i).tmod (Int.ofNat 524288)))] true none]) = some (Value.slice (some { block := L + 0, off := 0, spot := some 1 }) 2 2, σ1)), (some (Value.slice (some { block := List.length σ1, off := 0, spot := some 1 }) 1 1, σ1 ++ [AObj.row [Value.slice (some { block := L + 0, off := 0, spot := some 1 }) 2 2] true none]) = some (Value.slice (some { block := L + 1, off := 0, spot := some 1 }) 1 1, σ2)), (aAppend Try.prog (σ2) [101, 101] ([Value.slice A i i, Value.slice (some { block := L + 1, off := 0, spot := some 1 }) 1 1]) = some (Value.slice A2 (i + 1) (i + 1), σ3)), (some (Value.slice (some { block := List.length σ3, off := 0, spot := some 1 }) 2 2, σ3 ++ [AObj.row [Value.complex .f64 (FloatKind.f64.nearest ((r i).tmod (Int.ofNat 524288))) (FloatKind.f64.nearest ((s i).tmod (Int.ofNat 524288))), Value.complex .f64 4607182418800017408 0] true none]) = some (Value.slice (some { block := L + 3, off := 0, spot := some 1 }) 2 2, σ4)), (some (Value.slice (some { block := List.length σ4, off := 0, spot := some 1 }) 1 1, σ4 ++ [AObj.row [Value.slice (some { block := L + 3, off := 0, spot := some 1 }) 2 2] true none]) = some (Value.slice (some { block := L + 4, off := 0, spot := some 1 }) 1 1, σ5)), (aAppend Try.prog (σ5) [101, 101] ([Value.slice B i i, Value.slice (some { block := L + 4, off := 0, spot := some 1 }) 1 1]) = some (Value.slice B2 (i + 1) (i + 1), σ6)), (some (Value.slice (some { block := List.length σ6, off := 0, spot := some 1 }) 2 2, σ6 ++ [AObj.row [Value.complex .f64 (fadd (FloatKind.f64.nearest ((p i).tmod (Int.ofNat 524288))) (FloatKind.f64.nearest ((r i).tmod (Int.ofNat 524288)))) (fadd (FloatKind.f64.nearest ((q i).tmod (Int.ofNat 524288))) (FloatKind.f64.nearest ((s i).tmod (Int.ofNat 524288)))), Value.complex .f64 (fadd (FloatKind.f64.nearest ((r i).tmod (Int.ofNat 524288))) 4607182418800017408) (fadd (FloatKind.f64.nearest ((s i).tmod (Int.ofNat 524288))) 0)] true none]) = some (Value.slice (some { block := L + 6, off := 0, spot := some 1 }) 2 2, σ7)), (some (Value.slice (some { block := List.length σ7, off := 0, spot := some 1 }) 1 1, σ7 ++ [AObj.row [Value.slice (some { block := L + 6, off := 0, spot := some 1 }) 2 2] true none]) = some (Value.slice (some { block := L + 7, off := 0, spot := some 1 }) 1 1, σ8)), (aAppend Try.prog (σ8) [101, 101] ([Value.slice C i i, Value.slice (some { block := L + 7, off := 0, spot := some 1 }) 1 1]) = some (Value.slice C2 (i + 1) (i + 1), σ9)), (ixF (Value.pointer (some { block := 2, off := 0 + i * 2 })) (σ9) (iN i) (n) = some (Value.pointer (some { block := 2, off := 0 + i * 2 }), σ9)), (ldF (aLoad Try.prog (σ9) 128 (Value.pointer (some { block := 2, off := 0 + i * 2 }))) (σ9) = some (Value.agg #[Value.int .i64 (u i), Value.int .i64 (v i)], σ9)), (some (Value.slice (some { block := List.length σ9, off := 0, spot := some 1 }) 1 1, σ9 ++ [AObj.row [Value.complex .f64 (FloatKind.f64.nearest ((u i).tmod (Int.ofNat 524288))) (FloatKind.f64.nearest ((v i).tmod (Int.ofNat 524288)))] true none]) = some (Value.slice (some { block := L + 9, off := 0, spot := some 1 }) 1 1, σ10)), (aAppend Try.prog (σ10) [66, 66] ([Value.slice V i i, Value.slice (some { block := L + 9, off := 0, spot := some 1 }) 1 1]) = some (Value.slice V2 (i + 1) (i + 1), σ11)), (wF IntKind.i64 (iN i + 1) (σ11) = some (.int IntKind.i64 (iN (i + 1)), σ11))]) ba1_okX (by kernel_rfl) ⟨bP_of (fun x => x) (show (decide (iN i < iN n)) = true from decide_eq_true (by (try simp only [decide_eq_true_eq, decide_eq_false_iff_not] at *); (try simp only [iN_eq, Int.ofNat_eq_natCast] at *); try omega)), ⟨ixF_ok _ _ (by (try simp only [decide_eq_true_eq, decide_eq_false_iff_not] at *); (try simp only [iN_eq, Int.ofNat_eq_natCast] at *); try omega), ⟨ldF_ok s13, ⟨ixF_ok _ _ (by (try simp only [decide_eq_true_eq, decide_eq_false_iff_not] at *); (try simp only [iN_eq, Int.ofNat_eq_natCast] at *); try omega), ⟨ldF_ok s12, ⟨s11, ⟨s10, ⟨s9, ⟨s8, ⟨s7, ⟨s6, ⟨s5, ⟨s4, ⟨s3, ⟨ixF_ok _ _ (by (try simp only [decide_eq_true_eq, decide_eq_false_iff_not] at *); (try simp only [iN_eq, Int.ofNat_eq_natCast] at *); try omega), ⟨ldF_ok s2, ⟨s1, ⟨s0, ⟨wF_ok _ (by (try simp only [decide_eq_true_eq, decide_eq_false_iff_not] at *); (try simp only [iN_eq, Int.ofNat_eq_natCast] at *); try omega) (by (try simp only [decide_eq_true_eq, decide_eq_false_iff_not] at *); (try simp only [iN_eq, Int.ofNat_eq_natCast] at *); try omega), trivial⟩⟩⟩⟩⟩⟩⟩⟩⟩⟩⟩⟩⟩⟩⟩⟩⟩⟩⟩
theorem baE_okX : codeOkX (dLBa) [] (loopOf Try.f26 0) = true := by kernel_rfl
theorem baE_p0 (σ : AHeap) (p : Nat → Int) (q : Nat → Int) (r : Nat → Int) (s : Nat → Int) (u : Nat → Int) (v : Nat → Int) (n1 : Nat) (c1 : Nat) (n2 : Nat) (c2 : Nat) (n : Nat) (c3 : Nat) (h0 : 0 < n) (hn : n ≤ 64) (hn1 : n ≤ n1) (hn2 : n ≤ n2) (A : Option Addr) (B : Option Addr) (C : Option Addr) (V : Option Addr) (hst : Stood false ([])) : Sim (dLBa) (List.length (α := AObj) (σ)) (loopOf Try.f26 0) ((baF n1 c1 n2 c2 n c3 A B C V n)) (σ) (.exit 0) ([Value.slice (some ⟨0, 0, some 2⟩) n1 c1, Value.slice (some ⟨1, 0, some 2⟩) n2 c2, Value.slice (some ⟨2, 0, some 2⟩) n c3, undef, undef, undef, Value.bool false, Value.slice A n n, Value.slice B n n, Value.slice C n n, Value.slice V n n, Value.int .i64 (iN n), undef, undef, undef, undef, undef, undef, undef, undef, undef, undef, undef, undef, undef, undef, undef, undef, undef, undef, undef, undef, undef, undef, undef, undef, undef, undef, undef, undef, undef, undef, undef, undef, undef, undef, undef, undef, undef, undef, undef, undef, undef, undef, undef, undef, undef, undef, undef, undef, undef, undef, undef, undef, undef, undef, undef, undef, undef, undef, undef, undef, undef, undef, undef, undef, undef, undef, undef, undef, undef, undef, undef, undef, undef, undef, undef, undef, undef, undef, undef, undef, undef, undef, undef, undef, undef, undef, undef, undef, undef, undef, undef, undef, undef, undef, undef, undef, undef, undef, undef, undef, undef, undef, undef, undef, undef, undef, undef, undef, undef, undef, undef, undef, undef, undef, undef, undef, undef, undef, undef, undef, undef, undef, undef, undef, undef, undef, undef, undef, undef, undef, undef, undef, undef, undef, undef, undef, undef, undef, undef, undef, undef, undef, undef, undef, undef]) (σ) ∧ List.length (α := AObj) (σ) ≤ List.length (α := AObj) (σ) := Sim.of_roundV (C := dLBa) dLBa_ok (X := []) (n := 3) (orc := [(8, Item.br false)]) (mask := [true, true, true, false, false, false, true, true, true, true, true, true, false, false, false, false, false, false, false, false, false, false, false, false, false, false, false, false, false, false, false, false, false, false, false, false, false, false, false, false, false, false, false, false, false, false, false, false, false, false, false, false, false, false, false, false, false, false, false, false, false, false, false, false, false, false, false, false, false, false, false, false, false, false, false, false, false, false, false, false, false, false, false, false, false, false, false, false, false, false, false, false, false, false, false, false, false, false, false, false, false, false, false, false, false, false, false, false, false, false, false, false, false, false, false, false, false, false, false, false, false, false, false, false, false, false, false, false, false, false, false, false, false, false, false, false, false, false, false, false, false, false, false, false, false, false, false, false, false, false, false, false, false, false, false, false, false]) (ps := [(some (decide (iN n < iN n)) = some false)]) baE_okX (by kernel_rfl) ⟨bP_of (fun x => x) (show (decide (iN n < iN n)) = false from decide_eq_false (by (try simp only [decide_eq_true_eq, decide_eq_false_iff_not] at *); (try simp only [iN_eq, Int.ofNat_eq_natCast] at *); try omega)), trivial⟩
end Go.Lk
end

section
/- BeamAdds: its paths. -/
namespace Go.Lk
open Go.Proofs
set_option maxRecDepth 100000
set_option maxHeartbeats 0
set_option linter.unusedVariables false
set_option linter.unusedSimpArgs false
-- closed rows
-- no trees
noncomputable def LBf (g113 : HeapFn) : Lib := ⟨Try.prog, false, (tba.addH 113 false g113), [], []⟩
theorem LBf_ok (g113 : HeapFn) (hg113 : IsHeap Try.prog false 113 false g113) : (LBf g113).Ok := ⟨(Tab.Ok.addH tba_ok hg113), mixed, fs_nil, gs_nil, fun _ _ => by kernel_rfl, fun _ _ => by kernel_rfl⟩
noncomputable def dBf (g113 : HeapFn) : Cfg := (LBf g113).cfg 100 6
theorem dBf_ok (g113 : HeapFn) (hg113 : IsHeap Try.prog false 113 false g113) : (dBf g113).Ok := (LBf_ok g113 hg113).cfg 100 6
theorem baP_fok {g113 : HeapFn} : fnOkX ((dBf g113)) [] Try.f26 = true := by kernel_rfl
theorem baP_p0 (g113 : HeapFn) (hg113 : IsHeap Try.prog false 113 false g113) (σ : AHeap) (σ1 : AHeap) (σ2 : AHeap) (σ3 : AHeap) (σ4 : AHeap) (n1 : Nat) (c1 : Nat) (n2 : Nat) (c2 : Nat) (n : Nat) (c3 : Nat) (a : Nat) (b : Nat) (c : Nat) (v : Nat) (o1 : Nat) (o2 : Nat) (o3 : Nat) (x0 : Nat) (y0 : Nat) (x1 : Nat) (y1 : Nat) (u0 : Nat) (w0 : Nat) (u1 : Nat) (w1 : Nat) (z0 : Nat) (t0 : Nat) (z1 : Nat) (t1 : Nat) (h0 : 0 < n) (hn : n ≤ 64) (hn1 : n ≤ n1) (hn2 : n ≤ n2) (m0 : List.length σ ≤ List.length σ1) (g1 : (feq z0 (fadd x0 u0) && feq t0 (fadd y0 w0)) = true) (g2 : (feq z1 (fadd x1 u1) && feq t1 (fadd y1 w1)) = true) (s0 : aLoad Try.prog (σ4) 27 (Value.pointer (some ⟨o2, 1, none⟩)) = some (Value.complex .f64 u1 w1)) (s1 : aLoad Try.prog (σ4) 27 (Value.pointer (some ⟨o1, 1, none⟩)) = some (Value.complex .f64 x1 y1)) (s2 : aLoad Try.prog (σ4) 27 (Value.pointer (some ⟨o3, 1, none⟩)) = some (Value.complex .f64 z1 t1)) (s3 : aLoad Try.prog (σ4) 27 (Value.pointer (some ⟨o2, 0, none⟩)) = some (Value.complex .f64 u0 w0)) (s4 : aLoad Try.prog (σ4) 27 (Value.pointer (some ⟨o1, 0, none⟩)) = some (Value.complex .f64 x0 y0)) (s5 : aLoad Try.prog (σ4) 27 (Value.pointer (some ⟨o3, 0, none⟩)) = some (Value.complex .f64 z0 t0)) (s6 : g113 ([Value.slice (some ⟨c, 0, some 1⟩) n n, Value.slice (some ⟨v, 0, some 1⟩) n n]) (σ3) = some (Value.tuple #[Value.slice (some ⟨o3, 0, some 1⟩) 2 2, Value.int .i64 0], σ4)) (s7 : g113 ([Value.slice (some ⟨b, 0, some 1⟩) n n, Value.slice (some ⟨v, 0, some 1⟩) n n]) (σ2) = some (Value.tuple #[Value.slice (some ⟨o2, 0, some 1⟩) 2 2, Value.int .i64 0], σ3)) (s8 : g113 ([Value.slice (some ⟨a, 0, some 1⟩) n n, Value.slice (some ⟨v, 0, some 1⟩) n n]) (σ1) = some (Value.tuple #[Value.slice (some ⟨o1, 0, some 1⟩) 2 2, Value.int .i64 0], σ2)) (l0 : Stood false (σ) → Sim ((dBf g113)) (List.length σ) (.loop (loopOf Try.f26 0)) ([Value.slice (some ⟨0, 0, some 2⟩) n1 c1, Value.slice (some ⟨1, 0, some 2⟩) n2 c2, Value.slice (some ⟨2, 0, some 2⟩) n c3, undef, undef, undef, Value.bool false, Value.slice none 0 0, Value.slice none 0 0, Value.slice none 0 0, Value.slice none 0 0, Value.int .i64 (Int.ofNat 0), undef, undef, undef, undef, undef, undef, undef, undef, Value.slice (some ⟨2, 0, some 2⟩) n c3, Value.int .i64 (iN n), Value.bool (decide (iN n < 1)), Value.bool (decide (iN n < 1)), Value.slice (some ⟨2, 0, some 2⟩) n c3, Value.int .i64 (iN n), Value.bool (decide (iN n > 64)), Value.bool (decide (iN n > 64)), Value.bool (decide (iN n > 64)), Value.slice (some ⟨0, 0, some 2⟩) n1 c1, Value.int .i64 (iN n1), Value.slice (some ⟨2, 0, some 2⟩) n c3, Value.int .i64 (iN n), Value.bool (decide (iN n1 < iN n)), Value.bool (decide (iN n1 < iN n)), Value.bool (decide (iN n1 < iN n)), Value.slice (some ⟨1, 0, some 2⟩) n2 c2, Value.int .i64 (iN n2), Value.slice (some ⟨2, 0, some 2⟩) n c3, Value.int .i64 (iN n), Value.bool (decide (iN n2 < iN n)), Value.bool (decide (iN n2 < iN n)), undef, undef, undef, undef, undef, undef, undef, undef, undef, undef, undef, undef, undef, undef, undef, undef, undef, undef, undef, undef, undef, undef, undef, undef, undef, undef, undef, undef, undef, undef, undef, undef, undef, undef, undef, undef, undef, undef, undef, undef, undef, undef, undef, undef, undef, undef, undef, undef, undef, undef, undef, undef, undef, undef, undef, undef, undef, undef, undef, undef, undef, undef, undef, undef, undef, undef, undef, undef, undef, undef, undef, undef, undef, undef, undef, undef, undef, undef, undef, undef, undef, undef, undef, undef, undef, undef, undef, undef, undef, undef, undef, undef, undef, undef, undef, undef, undef, undef, undef, undef, undef, undef, undef, undef, undef, undef, undef, undef, undef, undef, undef, undef, undef, undef, undef]) (σ) (Exit.exit 0) ([Value.slice (some ⟨0, 0, some 2⟩) n1 c1, Value.slice (some ⟨1, 0, some 2⟩) n2 c2, Value.slice (some ⟨2, 0, some 2⟩) n c3, undef, undef, undef, Value.bool false, Value.slice (some ⟨a, 0, some 1⟩) n n, Value.slice (some ⟨b, 0, some 1⟩) n n, Value.slice (some ⟨c, 0, some 1⟩) n n, Value.slice (some ⟨v, 0, some 1⟩) n n, Value.int .i64 (iN n), undef, undef, undef, undef, undef, undef, undef, undef, undef, undef, undef, undef, undef, undef, undef, undef, undef, undef, undef, undef, undef, undef, undef, undef, undef, undef, undef, undef, undef, undef, undef, undef, undef, undef, undef, undef, undef, undef, undef, undef, undef, undef, undef, undef, undef, undef, undef, undef, undef, undef, undef, undef, undef, undef, undef, undef, undef, undef, undef, undef, undef, undef, undef, undef, undef, undef, undef, undef, undef, undef, undef, undef, undef, undef, undef, undef, undef, undef, undef, undef, undef, undef, undef, undef, undef, undef, undef, undef, undef, undef, undef, undef, undef, undef, undef, undef, undef, undef, undef, undef, undef, undef, undef, undef, undef, undef, undef, undef, undef, undef, undef, undef, undef, undef, undef, undef, undef, undef, undef, undef, undef, undef, undef, undef, undef, undef, undef, undef, undef, undef, undef, undef, undef, undef, undef, undef, undef, undef, undef, undef, undef, undef, undef, undef, undef]) (σ1)) : CallR Try.prog false 26 ([Value.slice (some ⟨0, 0, some 2⟩) n1 c1, Value.slice (some ⟨1, 0, some 2⟩) n2 c2, Value.slice (some ⟨2, 0, some 2⟩) n c3]) (σ) (Value.bool true) (σ4) := CallR.of_DOXs (C := (dBf g113)) (dBf_ok g113 hg113) (X := []) Try.func26 baP_fok (n := 3) (orc := [(10, Item.br true), (12, Item.br true), (14, Item.br true), (17, Item.res (Value.bool (decide (iN n > 64)))), (20, Item.br true), (22, Item.br true), (24, Item.br true), (26, Item.br true), (28, Item.br true), (31, Item.res (Value.bool (decide (iN n1 < iN n)))), (34, Item.br true), (36, Item.br true), (38, Item.br true), (40, Item.br true), (42, Item.br true), (45, Item.res (Value.bool (decide (iN n2 < iN n)))), (46, Item.br false), (57, Item.loop (Exit.exit 0) (baF n1 c1 n2 c2 n c3 (some ⟨a, 0, some 1⟩) (some ⟨b, 0, some 1⟩) (some ⟨c, 0, some 1⟩) (some ⟨v, 0, some 1⟩) n) σ1), (63, Item.eff (Value.tuple #[Value.slice (some ⟨o1, 0, some 1⟩) 2 2, Value.int .i64 0]) σ2), (79, Item.eff (Value.tuple #[Value.slice (some ⟨o2, 0, some 1⟩) 2 2, Value.int .i64 0]) σ3), (95, Item.eff (Value.tuple #[Value.slice (some ⟨o3, 0, some 1⟩) 2 2, Value.int .i64 0]) σ4), (162, Item.eff (Value.complex .f64 z0 t0) σ4), (168, Item.eff (Value.complex .f64 x0 y0) σ4), (174, Item.eff (Value.complex .f64 u0 w0) σ4), (181, Item.br true), (183, Item.br true), (185, Item.br true), (186, Item.eff (Value.complex .f64 z1 t1) σ4), (187, Item.br true), (189, Item.br true), (191, Item.br true), (192, Item.eff (Value.complex .f64 x1 y1) σ4), (193, Item.br true), (195, Item.br true), (197, Item.br true), (198, Item.eff (Value.complex .f64 u1 w1) σ4), (199, Item.br true), (201, Item.br true), (204, Item.res (Value.bool (feq z1 (fadd x1 u1) && feq t1 (fadd y1 w1)))), (207, Item.br true), (210, Item.res (Value.bool true))]) (ps := [(some (decide (iN n < 1) == false) = some true), (some (decide (iN n < 1) == false) = some true), (some (decide (iN n < 1) == false) = some true), (pP (some (Value.bool true)) (some (Value.bool (decide (iN n > 64)))) (σ) (decide (iN n < 1)) (Value.bool (decide (iN n > 64)))), (some (decide (iN n > 64) == false) = some true), (some (decide (iN n > 64) == false) = some true), (some (decide (iN n > 64) == false) = some true), (some (decide (iN n > 64) == false) = some true), (some (decide (iN n > 64) == false) = some true), (pP (some (Value.bool true)) (some (Value.bool (decide (iN n1 < iN n)))) (σ) (decide (iN n > 64)) (Value.bool (decide (iN n1 < iN n)))), (some (decide (iN n1 < iN n) == false) = some true), (some (decide (iN n1 < iN n) == false) = some true), (some (decide (iN n1 < iN n) == false) = some true), (some (decide (iN n1 < iN n) == false) = some true), (some (decide (iN n1 < iN n) == false) = some true), (pP (some (Value.bool true)) (some (Value.bool (decide (iN n2 < iN n)))) (σ) (decide (iN n1 < iN n)) (Value.bool (decide (iN n2 < iN n)))), (some (decide (iN n2 < iN n)) = some false), (Sim ((dBf g113)) (List.length σ) (.loop (loopOf Try.f26 0)) ([Value.slice (some ⟨0, 0, some 2⟩) n1 c1, Value.slice (some ⟨1, 0, some 2⟩) n2 c2, Value.slice (some ⟨2, 0, some 2⟩) n c3, undef, undef, undef, Value.bool false, Value.slice none 0 0, Value.slice none 0 0, Value.slice none 0 0, Value.slice none 0 0, Value.int .i64 (Int.ofNat 0), undef, undef, undef, undef, undef, undef, undef, undef, Value.slice (some ⟨2, 0, some 2⟩) n c3, Value.int .i64 (iN n), Value.bool (decide (iN n < 1)), Value.bool (decide (iN n < 1)), Value.slice (some ⟨2, 0, some 2⟩) n c3, Value.int .i64 (iN n), Value.bool (decide (iN n > 64)), Value.bool (decide (iN n > 64)), Value.bool (decide (iN n > 64)), Value.slice (some ⟨0, 0, some 2⟩) n1 c1, Value.int .i64 (iN n1), Value.slice (some ⟨2, 0, some 2⟩) n c3, Value.int .i64 (iN n), Value.bool (decide (iN n1 < iN n)), Value.bool (decide (iN n1 < iN n)), Value.bool (decide (iN n1 < iN n)), Value.slice (some ⟨1, 0, some 2⟩) n2 c2, Value.int .i64 (iN n2), Value.slice (some ⟨2, 0, some 2⟩) n c3, Value.int .i64 (iN n), Value.bool (decide (iN n2 < iN n)), Value.bool (decide (iN n2 < iN n)), undef, undef, undef, undef, undef, undef, undef, undef, undef, undef, undef, undef, undef, undef, undef, undef, undef, undef, undef, undef, undef, undef, undef, undef, undef, undef, undef, undef, undef, undef, undef, undef, undef, undef, undef, undef, undef, undef, undef, undef, undef, undef, undef, undef, undef, undef, undef, undef, undef, undef, undef, undef, undef, undef, undef, undef, undef, undef, undef, undef, undef, undef, undef, undef, undef, undef, undef, undef, undef, undef, undef, undef, undef, undef, undef, undef, undef, undef, undef, undef, undef, undef, undef, undef, undef, undef, undef, undef, undef, undef, undef, undef, undef, undef, undef, undef, undef, undef, undef, undef, undef, undef, undef, undef, undef, undef, undef, undef, undef, undef, undef, undef, undef, undef, undef]) (σ) (Exit.exit 0) ([Value.slice (some ⟨0, 0, some 2⟩) n1 c1, Value.slice (some ⟨1, 0, some 2⟩) n2 c2, Value.slice (some ⟨2, 0, some 2⟩) n c3, undef, undef, undef, Value.bool false, Value.slice (some ⟨a, 0, some 1⟩) n n, Value.slice (some ⟨b, 0, some 1⟩) n n, Value.slice (some ⟨c, 0, some 1⟩) n n, Value.slice (some ⟨v, 0, some 1⟩) n n, Value.int .i64 (iN n), undef, undef, undef, undef, undef, undef, undef, undef, undef, undef, undef, undef, undef, undef, undef, undef, undef, undef, undef, undef, undef, undef, undef, undef, undef, undef, undef, undef, undef, undef, undef, undef, undef, undef, undef, undef, undef, undef, undef, undef, undef, undef, undef, undef, undef, undef, undef, undef, undef, undef, undef, undef, undef, undef, undef, undef, undef, undef, undef, undef, undef, undef, undef, undef, undef, undef, undef, undef, undef, undef, undef, undef, undef, undef, undef, undef, undef, undef, undef, undef, undef, undef, undef, undef, undef, undef, undef, undef, undef, undef, undef, undef, undef, undef, undef, undef, undef, undef, undef, undef, undef, undef, undef, undef, undef, undef, undef, undef, undef, undef, undef, undef, undef, undef, undef, undef, undef, undef, undef, undef, undef, undef, undef, undef, undef, undef, undef, undef, undef, undef, undef, undef, undef, undef, undef, undef, undef, undef, undef, undef, undef, undef, undef, undef, undef]) (σ1)), (List.length (α := AObj) (σ) ≤ List.length (σ1)), (Lk.Exit.isG (Exit.exit 0) = false), (g113 ([Value.slice (some ⟨a, 0, some 1⟩) n n, Value.slice (some ⟨v, 0, some 1⟩) n n]) (σ1) = some (Value.tuple #[Value.slice (some ⟨o1, 0, some 1⟩) 2 2, Value.int .i64 0], σ2)), (g113 ([Value.slice (some ⟨b, 0, some 1⟩) n n, Value.slice (some ⟨v, 0, some 1⟩) n n]) (σ2) = some (Value.tuple #[Value.slice (some ⟨o2, 0, some 1⟩) 2 2, Value.int .i64 0], σ3)), (g113 ([Value.slice (some ⟨c, 0, some 1⟩) n n, Value.slice (some ⟨v, 0, some 1⟩) n n]) (σ3) = some (Value.tuple #[Value.slice (some ⟨o3, 0, some 1⟩) 2 2, Value.int .i64 0], σ4)), (ldF (aLoad Try.prog (σ4) 27 (Value.pointer (some ⟨o3, 0, none⟩))) (σ4) = some (Value.complex .f64 z0 t0, σ4)), (ldF (aLoad Try.prog (σ4) 27 (Value.pointer (some ⟨o1, 0, none⟩))) (σ4) = some (Value.complex .f64 x0 y0, σ4)), (ldF (aLoad Try.prog (σ4) 27 (Value.pointer (some ⟨o2, 0, none⟩))) (σ4) = some (Value.complex .f64 u0 w0, σ4)), (bP ((feq z0 (fadd x0 u0) && feq t0 (fadd y0 w0)) == true) true), (bP ((feq z0 (fadd x0 u0) && feq t0 (fadd y0 w0)) == true) true), (bP ((feq z0 (fadd x0 u0) && feq t0 (fadd y0 w0)) == true) true), (ldF (aLoad Try.prog (σ4) 27 (Value.pointer (some ⟨o3, 1, none⟩))) (σ4) = some (Value.complex .f64 z1 t1, σ4)), (bP ((feq z0 (fadd x0 u0) && feq t0 (fadd y0 w0)) == true) true), (bP ((feq z0 (fadd x0 u0) && feq t0 (fadd y0 w0)) == true) true), (bP ((feq z0 (fadd x0 u0) && feq t0 (fadd y0 w0)) == true) true), (ldF (aLoad Try.prog (σ4) 27 (Value.pointer (some ⟨o1, 1, none⟩))) (σ4) = some (Value.complex .f64 x1 y1, σ4)), (bP ((feq z0 (fadd x0 u0) && feq t0 (fadd y0 w0)) == true) true), (bP ((feq z0 (fadd x0 u0) && feq t0 (fadd y0 w0)) == true) true), (bP ((feq z0 (fadd x0 u0) && feq t0 (fadd y0 w0)) == true) true), (ldF (aLoad Try.prog (σ4) 27 (Value.pointer (some ⟨o2, 1, none⟩))) (σ4) = some (Value.complex .f64 u1 w1, σ4)), (bP ((feq z0 (fadd x0 u0) && feq t0 (fadd y0 w0)) == true) true), (bP ((feq z0 (fadd x0 u0) && feq t0 (fadd y0 w0)) == true) true), (pP (some (Value.bool (feq z1 (fadd x1 u1) && feq t1 (fadd y1 w1)))) (some (Value.bool false)) (σ4) (feq z0 (fadd x0 u0) && feq t0 (fadd y0 w0)) (Value.bool (feq z1 (fadd x1 u1) && feq t1 (fadd y1 w1)))), (bP ((feq z1 (fadd x1 u1) && feq t1 (fadd y1 w1)) == true) true), (pP (some (Value.bool true)) (some (Value.bool false)) (σ4) (feq z1 (fadd x1 u1) && feq t1 (fadd y1 w1)) (Value.bool true))]) (by kernel_rfl) (fun hst => ⟨bP_of (fun x => x == false) (show (decide (iN n < 1)) = false from decide_eq_false (by (try simp only [decide_eq_true_eq, decide_eq_false_iff_not] at *); (try simp only [iN_eq, Int.ofNat_eq_natCast] at *); try omega)), ⟨bP_of (fun x => x == false) (show (decide (iN n < 1)) = false from decide_eq_false (by (try simp only [decide_eq_true_eq, decide_eq_false_iff_not] at *); (try simp only [iN_eq, Int.ofNat_eq_natCast] at *); try omega)), ⟨bP_of (fun x => x == false) (show (decide (iN n < 1)) = false from decide_eq_false (by (try simp only [decide_eq_true_eq, decide_eq_false_iff_not] at *); (try simp only [iN_eq, Int.ofNat_eq_natCast] at *); try omega)), ⟨pP_f _ _ _ (congrArg (fun bb => (bb)) (show (decide (iN n < 1)) = false from decide_eq_false (by (try simp only [decide_eq_true_eq, decide_eq_false_iff_not] at *); (try simp only [iN_eq, Int.ofNat_eq_natCast] at *); try omega))), ⟨bP_of (fun x => x == false) (show (decide (iN n > 64)) = false from decide_eq_false (by (try simp only [decide_eq_true_eq, decide_eq_false_iff_not] at *); (try simp only [iN_eq, Int.ofNat_eq_natCast] at *); try omega)), ⟨bP_of (fun x => x == false) (show (decide (iN n > 64)) = false from decide_eq_false (by (try simp only [decide_eq_true_eq, decide_eq_false_iff_not] at *); (try simp only [iN_eq, Int.ofNat_eq_natCast] at *); try omega)), ⟨bP_of (fun x => x == false) (show (decide (iN n > 64)) = false from decide_eq_false (by (try simp only [decide_eq_true_eq, decide_eq_false_iff_not] at *); (try simp only [iN_eq, Int.ofNat_eq_natCast] at *); try omega)), ⟨bP_of (fun x => x == false) (show (decide (iN n > 64)) = false from decide_eq_false (by (try simp only [decide_eq_true_eq, decide_eq_false_iff_not] at *); (try simp only [iN_eq, Int.ofNat_eq_natCast] at *); try omega)), ⟨bP_of (fun x => x == false) (show (decide (iN n > 64)) = false from decide_eq_false (by (try simp only [decide_eq_true_eq, decide_eq_false_iff_not] at *); (try simp only [iN_eq, Int.ofNat_eq_natCast] at *); try omega)), ⟨pP_f _ _ _ (congrArg (fun bb => (bb)) (show (decide (iN n > 64)) = false from decide_eq_false (by (try simp only [decide_eq_true_eq, decide_eq_false_iff_not] at *); (try simp only [iN_eq, Int.ofNat_eq_natCast] at *); try omega))), ⟨bP_of (fun x => x == false) (show (decide (iN n1 < iN n)) = false from decide_eq_false (by (try simp only [decide_eq_true_eq, decide_eq_false_iff_not] at *); (try simp only [iN_eq, Int.ofNat_eq_natCast] at *); try omega)), ⟨bP_of (fun x => x == false) (show (decide (iN n1 < iN n)) = false from decide_eq_false (by (try simp only [decide_eq_true_eq, decide_eq_false_iff_not] at *); (try simp only [iN_eq, Int.ofNat_eq_natCast] at *); try omega)), ⟨bP_of (fun x => x == false) (show (decide (iN n1 < iN n)) = false from decide_eq_false (by (try simp only [decide_eq_true_eq, decide_eq_false_iff_not] at *); (try simp only [iN_eq, Int.ofNat_eq_natCast] at *); try omega)), ⟨bP_of (fun x => x == false) (show (decide (iN n1 < iN n)) = false from decide_eq_false (by (try simp only [decide_eq_true_eq, decide_eq_false_iff_not] at *); (try simp only [iN_eq, Int.ofNat_eq_natCast] at *); try omega)), ⟨bP_of (fun x => x == false) (show (decide (iN n1 < iN n)) = false from decide_eq_false (by (try simp only [decide_eq_true_eq, decide_eq_false_iff_not] at *); (try simp only [iN_eq, Int.ofNat_eq_natCast] at *); try omega)), ⟨pP_f _ _ _ (congrArg (fun bb => (bb)) (show (decide (iN n1 < iN n)) = false from decide_eq_false (by (try simp only [decide_eq_true_eq, decide_eq_false_iff_not] at *); (try simp only [iN_eq, Int.ofNat_eq_natCast] at *); try omega))), ⟨bP_of (fun x => x) (show (decide (iN n2 < iN n)) = false from decide_eq_false (by (try simp only [decide_eq_true_eq, decide_eq_false_iff_not] at *); (try simp only [iN_eq, Int.ofNat_eq_natCast] at *); try omega)), ⟨l0 hst, (by first | assumption | (simp; done) | (simp; omega) | omega), rfl, ⟨s8, ⟨s7, ⟨s6, ⟨ldF_ok s5, ⟨ldF_ok s4, ⟨ldF_ok s3, ⟨bP_of (fun x => x == true) g1, ⟨bP_of (fun x => x == true) g1, ⟨bP_of (fun x => x == true) g1, ⟨ldF_ok s2, ⟨bP_of (fun x => x == true) g1, ⟨bP_of (fun x => x == true) g1, ⟨bP_of (fun x => x == true) g1, ⟨ldF_ok s1, ⟨bP_of (fun x => x == true) g1, ⟨bP_of (fun x => x == true) g1, ⟨bP_of (fun x => x == true) g1, ⟨ldF_ok s0, ⟨bP_of (fun x => x == true) g1, ⟨bP_of (fun x => x == true) g1, ⟨pP_t _ _ _ (congrArg (fun bb => (bb)) g1), ⟨bP_of (fun x => x == true) g2, ⟨pP_t _ _ _ (congrArg (fun bb => (bb)) g2), trivial⟩⟩⟩⟩⟩⟩⟩⟩⟩⟩⟩⟩⟩⟩⟩⟩⟩⟩⟩⟩⟩⟩⟩⟩⟩⟩⟩⟩⟩⟩⟩⟩⟩⟩⟩⟩⟩⟩⟩⟩⟩)
theorem baG1_fok : fnOkX (dLBa) [] Try.f26 = true := by kernel_rfl
theorem baG1_p0 (σ : AHeap) (a1 : Option Addr) (a2 : Option Addr) (a3 : Option Addr) (n1 : Nat) (c1 : Nat) (n2 : Nat) (c2 : Nat) (n : Nat) (c3 : Nat) (h0 : n < 1) : CallR Try.prog false 26 ([Value.slice a1 n1 c1, Value.slice a2 n2 c2, Value.slice a3 n c3]) (σ) (Value.bool true) (σ) := CallR.of_DOXs (C := dLBa) dLBa_ok (X := []) Try.func26 baG1_fok (n := 3) (orc := [(10, Item.br false), (12, Item.br false), (14, Item.br false), (17, Item.res (Value.bool true))]) (ps := [(some (decide (iN n < 1) == false) = some false), (some (decide (iN n < 1) == false) = some false), (some (decide (iN n < 1) == false) = some false), (pP (some (Value.bool true)) (none) (σ) (decide (iN n < 1)) (Value.bool true))]) (by kernel_rfl) (fun hst => ⟨bP_of (fun x => x == false) (show (decide (iN n < 1)) = true from decide_eq_true (by (try simp only [decide_eq_true_eq, decide_eq_false_iff_not] at *); (try simp only [iN_eq, Int.ofNat_eq_natCast] at *); try omega)), ⟨bP_of (fun x => x == false) (show (decide (iN n < 1)) = true from decide_eq_true (by (try simp only [decide_eq_true_eq, decide_eq_false_iff_not] at *); (try simp only [iN_eq, Int.ofNat_eq_natCast] at *); try omega)), ⟨bP_of (fun x => x == false) (show (decide (iN n < 1)) = true from decide_eq_true (by (try simp only [decide_eq_true_eq, decide_eq_false_iff_not] at *); (try simp only [iN_eq, Int.ofNat_eq_natCast] at *); try omega)), ⟨pP_t _ _ _ (congrArg (fun bb => (bb)) (show (decide (iN n < 1)) = true from decide_eq_true (by (try simp only [decide_eq_true_eq, decide_eq_false_iff_not] at *); (try simp only [iN_eq, Int.ofNat_eq_natCast] at *); try omega))), trivial⟩⟩⟩⟩)
theorem baG2_fok : fnOkX (dLBa) [] Try.f26 = true := by kernel_rfl
theorem baG2_p0 (σ : AHeap) (a1 : Option Addr) (a2 : Option Addr) (a3 : Option Addr) (n1 : Nat) (c1 : Nat) (n2 : Nat) (c2 : Nat) (n : Nat) (c3 : Nat) (h0 : 0 < n) (h1 : 64 < n) : CallR Try.prog false 26 ([Value.slice a1 n1 c1, Value.slice a2 n2 c2, Value.slice a3 n c3]) (σ) (Value.bool true) (σ) := CallR.of_DOXs (C := dLBa) dLBa_ok (X := []) Try.func26 baG2_fok (n := 3) (orc := [(10, Item.br true), (12, Item.br true), (14, Item.br true), (17, Item.res (Value.bool (decide (iN n > 64)))), (20, Item.br false), (22, Item.br false), (24, Item.br false), (26, Item.br false), (28, Item.br false), (31, Item.res (Value.bool true))]) (ps := [(some (decide (iN n < 1) == false) = some true), (some (decide (iN n < 1) == false) = some true), (some (decide (iN n < 1) == false) = some true), (pP (some (Value.bool true)) (some (Value.bool (decide (iN n > 64)))) (σ) (decide (iN n < 1)) (Value.bool (decide (iN n > 64)))), (some (decide (iN n > 64) == false) = some false), (some (decide (iN n > 64) == false) = some false), (some (decide (iN n > 64) == false) = some false), (some (decide (iN n > 64) == false) = some false), (some (decide (iN n > 64) == false) = some false), (pP (some (Value.bool true)) (none) (σ) (decide (iN n > 64)) (Value.bool true))]) (by kernel_rfl) (fun hst => ⟨bP_of (fun x => x == false) (show (decide (iN n < 1)) = false from decide_eq_false (by (try simp only [decide_eq_true_eq, decide_eq_false_iff_not] at *); (try simp only [iN_eq, Int.ofNat_eq_natCast] at *); try omega)), ⟨bP_of (fun x => x == false) (show (decide (iN n < 1)) = false from decide_eq_false (by (try simp only [decide_eq_true_eq, decide_eq_false_iff_not] at *); (try simp only [iN_eq, Int.ofNat_eq_natCast] at *); try omega)), ⟨bP_of (fun x => x == false) (show (decide (iN n < 1)) = false from decide_eq_false (by (try simp only [decide_eq_true_eq, decide_eq_false_iff_not] at *); (try simp only [iN_eq, Int.ofNat_eq_natCast] at *); try omega)), ⟨pP_f _ _ _ (congrArg (fun bb => (bb)) (show (decide (iN n < 1)) = false from decide_eq_false (by (try simp only [decide_eq_true_eq, decide_eq_false_iff_not] at *); (try simp only [iN_eq, Int.ofNat_eq_natCast] at *); try omega))), ⟨bP_of (fun x => x == false) (show (decide (iN n > 64)) = true from decide_eq_true (by (try simp only [decide_eq_true_eq, decide_eq_false_iff_not] at *); (try simp only [iN_eq, Int.ofNat_eq_natCast] at *); try omega)), ⟨bP_of (fun x => x == false) (show (decide (iN n > 64)) = true from decide_eq_true (by (try simp only [decide_eq_true_eq, decide_eq_false_iff_not] at *); (try simp only [iN_eq, Int.ofNat_eq_natCast] at *); try omega)), ⟨bP_of (fun x => x == false) (show (decide (iN n > 64)) = true from decide_eq_true (by (try simp only [decide_eq_true_eq, decide_eq_false_iff_not] at *); (try simp only [iN_eq, Int.ofNat_eq_natCast] at *); try omega)), ⟨bP_of (fun x => x == false) (show (decide (iN n > 64)) = true from decide_eq_true (by (try simp only [decide_eq_true_eq, decide_eq_false_iff_not] at *); (try simp only [iN_eq, Int.ofNat_eq_natCast] at *); try omega)), ⟨bP_of (fun x => x == false) (show (decide (iN n > 64)) = true from decide_eq_true (by (try simp only [decide_eq_true_eq, decide_eq_false_iff_not] at *); (try simp only [iN_eq, Int.ofNat_eq_natCast] at *); try omega)), ⟨pP_t _ _ _ (congrArg (fun bb => (bb)) (show (decide (iN n > 64)) = true from decide_eq_true (by (try simp only [decide_eq_true_eq, decide_eq_false_iff_not] at *); (try simp only [iN_eq, Int.ofNat_eq_natCast] at *); try omega))), trivial⟩⟩⟩⟩⟩⟩⟩⟩⟩⟩)
theorem baG3_fok : fnOkX (dLBa) [] Try.f26 = true := by kernel_rfl
theorem baG3_p0 (σ : AHeap) (a1 : Option Addr) (a2 : Option Addr) (a3 : Option Addr) (n1 : Nat) (c1 : Nat) (n2 : Nat) (c2 : Nat) (n : Nat) (c3 : Nat) (h0 : 0 < n) (h1 : n ≤ 64) (h2 : n1 < n) : CallR Try.prog false 26 ([Value.slice a1 n1 c1, Value.slice a2 n2 c2, Value.slice a3 n c3]) (σ) (Value.bool true) (σ) := CallR.of_DOXs (C := dLBa) dLBa_ok (X := []) Try.func26 baG3_fok (n := 3) (orc := [(10, Item.br true), (12, Item.br true), (14, Item.br true), (17, Item.res (Value.bool (decide (iN n > 64)))), (20, Item.br true), (22, Item.br true), (24, Item.br true), (26, Item.br true), (28, Item.br true), (31, Item.res (Value.bool (decide (iN n1 < iN n)))), (34, Item.br false), (36, Item.br false), (38, Item.br false), (40, Item.br false), (42, Item.br false), (45, Item.res (Value.bool true))]) (ps := [(some (decide (iN n < 1) == false) = some true), (some (decide (iN n < 1) == false) = some true), (some (decide (iN n < 1) == false) = some true), (pP (some (Value.bool true)) (some (Value.bool (decide (iN n > 64)))) (σ) (decide (iN n < 1)) (Value.bool (decide (iN n > 64)))), (some (decide (iN n > 64) == false) = some true), (some (decide (iN n > 64) == false) = some true), (some (decide (iN n > 64) == false) = some true), (some (decide (iN n > 64) == false) = some true), (some (decide (iN n > 64) == false) = some true), (pP (some (Value.bool true)) (some (Value.bool (decide (iN n1 < iN n)))) (σ) (decide (iN n > 64)) (Value.bool (decide (iN n1 < iN n)))), (some (decide (iN n1 < iN n) == false) = some false), (some (decide (iN n1 < iN n) == false) = some false), (some (decide (iN n1 < iN n) == false) = some false), (some (decide (iN n1 < iN n) == false) = some false), (some (decide (iN n1 < iN n) == false) = some false), (pP (some (Value.bool true)) (none) (σ) (decide (iN n1 < iN n)) (Value.bool true))]) (by kernel_rfl) (fun hst => ⟨bP_of (fun x => x == false) (show (decide (iN n < 1)) = false from decide_eq_false (by (try simp only [decide_eq_true_eq, decide_eq_false_iff_not] at *); (try simp only [iN_eq, Int.ofNat_eq_natCast] at *); try omega)), ⟨bP_of (fun x => x == false) (show (decide (iN n < 1)) = false from decide_eq_false (by (try simp only [decide_eq_true_eq, decide_eq_false_iff_not] at *); (try simp only [iN_eq, Int.ofNat_eq_natCast] at *); try omega)), ⟨bP_of (fun x => x == false) (show (decide (iN n < 1)) = false from decide_eq_false (by (try simp only [decide_eq_true_eq, decide_eq_false_iff_not] at *); (try simp only [iN_eq, Int.ofNat_eq_natCast] at *); try omega)), ⟨pP_f _ _ _ (congrArg (fun bb => (bb)) (show (decide (iN n < 1)) = false from decide_eq_false (by (try simp only [decide_eq_true_eq, decide_eq_false_iff_not] at *); (try simp only [iN_eq, Int.ofNat_eq_natCast] at *); try omega))), ⟨bP_of (fun x => x == false) (show (decide (iN n > 64)) = false from decide_eq_false (by (try simp only [decide_eq_true_eq, decide_eq_false_iff_not] at *); (try simp only [iN_eq, Int.ofNat_eq_natCast] at *); try omega)), ⟨bP_of (fun x => x == false) (show (decide (iN n > 64)) = false from decide_eq_false (by (try simp only [decide_eq_true_eq, decide_eq_false_iff_not] at *); (try simp only [iN_eq, Int.ofNat_eq_natCast] at *); try omega)), ⟨bP_of (fun x => x == false) (show (decide (iN n > 64)) = false from decide_eq_false (by (try simp only [decide_eq_true_eq, decide_eq_false_iff_not] at *); (try simp only [iN_eq, Int.ofNat_eq_natCast] at *); try omega)), ⟨bP_of (fun x => x == false) (show (decide (iN n > 64)) = false from decide_eq_false (by (try simp only [decide_eq_true_eq, decide_eq_false_iff_not] at *); (try simp only [iN_eq, Int.ofNat_eq_natCast] at *); try omega)), ⟨bP_of (fun x => x == false) (show (decide (iN n > 64)) = false from decide_eq_false (by (try simp only [decide_eq_true_eq, decide_eq_false_iff_not] at *); (try simp only [iN_eq, Int.ofNat_eq_natCast] at *); try omega)), ⟨pP_f _ _ _ (congrArg (fun bb => (bb)) (show (decide (iN n > 64)) = false from decide_eq_false (by (try simp only [decide_eq_true_eq, decide_eq_false_iff_not] at *); (try simp only [iN_eq, Int.ofNat_eq_natCast] at *); try omega))), ⟨bP_of (fun x => x == false) (show (decide (iN n1 < iN n)) = true from decide_eq_true (by (try simp only [decide_eq_true_eq, decide_eq_false_iff_not] at *); (try simp only [iN_eq, Int.ofNat_eq_natCast] at *); try omega)), ⟨bP_of (fun x => x == false) (show (decide (iN n1 < iN n)) = true from decide_eq_true (by (try simp only [decide_eq_true_eq, decide_eq_false_iff_not] at *); (try simp only [iN_eq, Int.ofNat_eq_natCast] at *); try omega)), ⟨bP_of (fun x => x == false) (show (decide (iN n1 < iN n)) = true from decide_eq_true (by (try simp only [decide_eq_true_eq, decide_eq_false_iff_not] at *); (try simp only [iN_eq, Int.ofNat_eq_natCast] at *); try omega)), ⟨bP_of (fun x => x == false) (show (decide (iN n1 < iN n)) = true from decide_eq_true (by (try simp only [decide_eq_true_eq, decide_eq_false_iff_not] at *); (try simp only [iN_eq, Int.ofNat_eq_natCast] at *); try omega)), ⟨bP_of (fun x => x == false) (show (decide (iN n1 < iN n)) = true from decide_eq_true (by (try simp only [decide_eq_true_eq, decide_eq_false_iff_not] at *); (try simp only [iN_eq, Int.ofNat_eq_natCast] at *); try omega)), ⟨pP_t _ _ _ (congrArg (fun bb => (bb)) (show (decide (iN n1 < iN n)) = true from decide_eq_true (by (try simp only [decide_eq_true_eq, decide_eq_false_iff_not] at *); (try simp only [iN_eq, Int.ofNat_eq_natCast] at *); try omega))), trivial⟩⟩⟩⟩⟩⟩⟩⟩⟩⟩⟩⟩⟩⟩⟩⟩)
theorem baG4_fok : fnOkX (dLBa) [] Try.f26 = true := by kernel_rfl
theorem baG4_p0 (σ : AHeap) (a1 : Option Addr) (a2 : Option Addr) (a3 : Option Addr) (n1 : Nat) (c1 : Nat) (n2 : Nat) (c2 : Nat) (n : Nat) (c3 : Nat) (h0 : 0 < n) (h1 : n ≤ 64) (h2 : n ≤ n1) (h3 : n2 < n) : CallR Try.prog false 26 ([Value.slice a1 n1 c1, Value.slice a2 n2 c2, Value.slice a3 n c3]) (σ) (Value.bool true) (σ) := CallR.of_DOXs (C := dLBa) dLBa_ok (X := []) Try.func26 baG4_fok (n := 3) (orc := [(10, Item.br true), (12, Item.br true), (14, Item.br true), (17, Item.res (Value.bool (decide (iN n > 64)))), (20, Item.br true), (22, Item.br true), (24, Item.br true), (26, Item.br true), (28, Item.br true), (31, Item.res (Value.bool (decide (iN n1 < iN n)))), (34, Item.br true), (36, Item.br true), (38, Item.br true), (40, Item.br true), (42, Item.br true), (45, Item.res (Value.bool (decide (iN n2 < iN n)))), (46, Item.br true)]) (ps := [(some (decide (iN n < 1) == false) = some true), (some (decide (iN n < 1) == false) = some true), (some (decide (iN n < 1) == false) = some true), (pP (some (Value.bool true)) (some (Value.bool (decide (iN n > 64)))) (σ) (decide (iN n < 1)) (Value.bool (decide (iN n > 64)))), (some (decide (iN n > 64) == false) = some true), (some (decide (iN n > 64) == false) = some true), (some (decide (iN n > 64) == false) = some true), (some (decide (iN n > 64) == false) = some true), (some (decide (iN n > 64) == false) = some true), (pP (some (Value.bool true)) (some (Value.bool (decide (iN n1 < iN n)))) (σ) (decide (iN n > 64)) (Value.bool (decide (iN n1 < iN n)))), (some (decide (iN n1 < iN n) == false) = some true), (some (decide (iN n1 < iN n) == false) = some true), (some (decide (iN n1 < iN n) == false) = some true), (some (decide (iN n1 < iN n) == false) = some true), (some (decide (iN n1 < iN n) == false) = some true), (pP (some (Value.bool true)) (some (Value.bool (decide (iN n2 < iN n)))) (σ) (decide (iN n1 < iN n)) (Value.bool (decide (iN n2 < iN n)))), (some (decide (iN n2 < iN n)) = some true)]) (by kernel_rfl) (fun hst => ⟨bP_of (fun x => x == false) (show (decide (iN n < 1)) = false from decide_eq_false (by (try simp only [decide_eq_true_eq, decide_eq_false_iff_not] at *); (try simp only [iN_eq, Int.ofNat_eq_natCast] at *); try omega)), ⟨bP_of (fun x => x == false) (show (decide (iN n < 1)) = false from decide_eq_false (by (try simp only [decide_eq_true_eq, decide_eq_false_iff_not] at *); (try simp only [iN_eq, Int.ofNat_eq_natCast] at *); try omega)), ⟨bP_of (fun x => x == false) (show (decide (iN n < 1)) = false from decide_eq_false (by (try simp only [decide_eq_true_eq, decide_eq_false_iff_not] at *); (try simp only [iN_eq, Int.ofNat_eq_natCast] at *); try omega)), ⟨pP_f _ _ _ (congrArg (fun bb => (bb)) (show (decide (iN n < 1)) = false from decide_eq_false (by (try simp only [decide_eq_true_eq, decide_eq_false_iff_not] at *); (try simp only [iN_eq, Int.ofNat_eq_natCast] at *); try omega))), ⟨bP_of (fun x => x == false) (show (decide (iN n > 64)) = false from decide_eq_false (by (try simp only [decide_eq_true_eq, decide_eq_false_iff_not] at *); (try simp only [iN_eq, Int.ofNat_eq_natCast] at *); try omega)), ⟨bP_of (fun x => x == false) (show (decide (iN n > 64)) = false from decide_eq_false (by (try simp only [decide_eq_true_eq, decide_eq_false_iff_not] at *); (try simp only [iN_eq, Int.ofNat_eq_natCast] at *); try omega)), ⟨bP_of (fun x => x == false) (show (decide (iN n > 64)) = false from decide_eq_false (by (try simp only [decide_eq_true_eq, decide_eq_false_iff_not] at *); (try simp only [iN_eq, Int.ofNat_eq_natCast] at *); try omega)), ⟨bP_of (fun x => x == false) (show (decide (iN n > 64)) = false from decide_eq_false (by (try simp only [decide_eq_true_eq, decide_eq_false_iff_not] at *); (try simp only [iN_eq, Int.ofNat_eq_natCast] at *); try omega)), ⟨bP_of (fun x => x == false) (show (decide (iN n > 64)) = false from decide_eq_false (by (try simp only [decide_eq_true_eq, decide_eq_false_iff_not] at *); (try simp only [iN_eq, Int.ofNat_eq_natCast] at *); try omega)), ⟨pP_f _ _ _ (congrArg (fun bb => (bb)) (show (decide (iN n > 64)) = false from decide_eq_false (by (try simp only [decide_eq_true_eq, decide_eq_false_iff_not] at *); (try simp only [iN_eq, Int.ofNat_eq_natCast] at *); try omega))), ⟨bP_of (fun x => x == false) (show (decide (iN n1 < iN n)) = false from decide_eq_false (by (try simp only [decide_eq_true_eq, decide_eq_false_iff_not] at *); (try simp only [iN_eq, Int.ofNat_eq_natCast] at *); try omega)), ⟨bP_of (fun x => x == false) (show (decide (iN n1 < iN n)) = false from decide_eq_false (by (try simp only [decide_eq_true_eq, decide_eq_false_iff_not] at *); (try simp only [iN_eq, Int.ofNat_eq_natCast] at *); try omega)), ⟨bP_of (fun x => x == false) (show (decide (iN n1 < iN n)) = false from decide_eq_false (by (try simp only [decide_eq_true_eq, decide_eq_false_iff_not] at *); (try simp only [iN_eq, Int.ofNat_eq_natCast] at *); try omega)), ⟨bP_of (fun x => x == false) (show (decide (iN n1 < iN n)) = false from decide_eq_false (by (try simp only [decide_eq_true_eq, decide_eq_false_iff_not] at *); (try simp only [iN_eq, Int.ofNat_eq_natCast] at *); try omega)), ⟨bP_of (fun x => x == false) (show (decide (iN n1 < iN n)) = false from decide_eq_false (by (try simp only [decide_eq_true_eq, decide_eq_false_iff_not] at *); (try simp only [iN_eq, Int.ofNat_eq_natCast] at *); try omega)), ⟨pP_f _ _ _ (congrArg (fun bb => (bb)) (show (decide (iN n1 < iN n)) = false from decide_eq_false (by (try simp only [decide_eq_true_eq, decide_eq_false_iff_not] at *); (try simp only [iN_eq, Int.ofNat_eq_natCast] at *); try omega))), ⟨bP_of (fun x => x) (show (decide (iN n2 < iN n)) = true from decide_eq_true (by (try simp only [decide_eq_true_eq, decide_eq_false_iff_not] at *); (try simp only [iN_eq, Int.ofNat_eq_natCast] at *); try omega)), trivial⟩⟩⟩⟩⟩⟩⟩⟩⟩⟩⟩⟩⟩⟩⟩⟩⟩)
end Go.Lk
end

section
/- BeamAdds: the tables, built. -/
namespace Go.Lk
open Go.Proofs
set_option maxRecDepth 100000
set_option maxHeartbeats 0
set_option linter.unusedVariables false
set_option linter.unusedSimpArgs false
/-- The old row is given up, if there is one. -/
def kl (i b : Nat) (σ : AHeap) : AHeap := bif Nat.beq i 0 then σ else kill σ b
def klA (i b : Nat) : Option Addr := bif Nat.beq i 0 then none else some ⟨b, 0, some 1⟩
theorem kill_len (σ : AHeap) (b : Nat) : (kill σ b).length = σ.length := by
  unfold kill; split
  · simp
  · rfl
theorem kill_get {σ : AHeap} {b b' : Nat} {o : AObj} (h : σ[b']? = some o) (hne : b ≠ b') : (kill σ b)[b']? = some o := by
  unfold kill; split
  · rw [List.getElem?_set_ne hne]; exact h
  · exact h
theorem kl_len (i b : Nat) (σ : AHeap) : (kl i b σ).length = σ.length := by
  unfold kl; cases Nat.beq i 0
  · exact kill_len σ b
  · rfl
theorem kl_get {σ : AHeap} {i b b' : Nat} {o : AObj} (h : σ[b']? = some o) (hne : 0 < i → b ≠ b') : (kl i b σ)[b']? = some o := by
  unfold kl
  cases i with
  | zero => exact h
  | succ i => exact kill_get h (hne (by omega))
theorem ba_app {σ : AHeap} {i a xb L' ty : Nat} {F : Nat → List Value} (hok : appOk Try.prog ty ty 1 = true) (hl : L' = σ.length) (hx : σ[xb]? = some (.row (F i) true none)) (ha : 0 < i → σ[a]? = some (.row (rowOf F i) true (some 1))) (hF : ∀ i, (F i).length = 1) (hone : ∀ i, (F i).all one = true) (hi : i ≤ 64) :
    aAppend Try.prog σ [ty, ty] [.slice (klA i a) i i, .slice (some ⟨xb, 0, some 1⟩) 1 1] = some (.slice (some ⟨L', 0, some 1⟩) (i + 1) (i + 1), kl i a σ ++ [.row (rowOf F (i + 1)) true (some 1)]) := by
  have hrow : rowOf (fun _ => F i) 1 = F i := by simp [rowOf]
  have hcell : aCells σ 1 1 (.slice (some ⟨xb, 0, some 1⟩) 1 1) = some (F i) := by
    have := cells_row (σ := σ) (b := xb) (z := 1) (n := 1) (m := 1) (cap := 1) (F := fun _ => F i) (rw' := true) (opn := none) (by rw [hrow]; exact hx) (fun _ => hF i) (Nat.le_refl _) 1
    rw [hrow] at this; exact this
  subst hl
  cases i with
  | zero =>
    have h1 : rowOf F 1 = F 0 := by simp [rowOf]
    exact append_first (n := 1) hok (by rw [h1]; exact hcell) rfl (by rw [h1]; exact hone 0) (by omega) (by omega)
  | succ i => exact append_grow hok (ha (by omega)) (.inl rfl) hcell rfl hF (hone _) (by omega) rfl
def baRa (p q r s u v : Nat → Int) (i : Nat) : AObj := .row [.complex .f64 (wh (p i)) (wh (q i)), .complex .f64 (wh (r i)) (wh (s i))] true none
def baRb (p q r s u v : Nat → Int) (i : Nat) : AObj := .row [.complex .f64 (wh (r i)) (wh (s i)), .complex .f64 4607182418800017408 0] true none
def baRc (p q r s u v : Nat → Int) (i : Nat) : AObj := .row [.complex .f64 (fadd (wh (p i)) (wh (r i))) (fadd (wh (q i)) (wh (s i))), .complex .f64 (fadd (wh (r i)) 4607182418800017408) (fadd (wh (s i)) 0)] true none
def baL (b : Nat) : AObj := .row [.slice (some ⟨b, 0, some 1⟩) 2 2] true none
def baT (j N : Nat) : AObj := .row (rowOf (fun k => [.slice (some ⟨3 + 11 * k + j, 0, some 1⟩) 2 2]) N) true (some 1)
def baW1 (p q r s u v : Nat → Int) (i : Nat) : AObj := .row [.complex .f64 (wh (u i)) (wh (v i))] true none
def baW (p q r s u v : Nat → Int) (N : Nat) : AObj := .row (rowOf (fun k => [.complex .f64 (wh (u k)) (wh (v k))]) N) true (some 1)
/-- Where a growing row of the last round lies. -/
def baP (i j : Nat) : Nat := 3 + 11 * (i - 1) + j
def baH1 (p q r s u v : Nat → Int) (i : Nat) (σ : AHeap) : AHeap := σ ++ [baRa p q r s u v i]
def baH2 (p q r s u v : Nat → Int) (i : Nat) (σ : AHeap) : AHeap := (baH1 p q r s u v i σ) ++ [baL (3 + 11 * i)]
def baH3 (p q r s u v : Nat → Int) (i : Nat) (σ : AHeap) : AHeap := (kl i (baP i 2) (baH2 p q r s u v i σ)) ++ [baT 0 (i + 1)]
def baH4 (p q r s u v : Nat → Int) (i : Nat) (σ : AHeap) : AHeap := (baH3 p q r s u v i σ) ++ [baRb p q r s u v i]
def baH5 (p q r s u v : Nat → Int) (i : Nat) (σ : AHeap) : AHeap := (baH4 p q r s u v i σ) ++ [baL (3 + 11 * i + 3)]
def baH6 (p q r s u v : Nat → Int) (i : Nat) (σ : AHeap) : AHeap := (kl i (baP i 5) (baH5 p q r s u v i σ)) ++ [baT 3 (i + 1)]
def baH7 (p q r s u v : Nat → Int) (i : Nat) (σ : AHeap) : AHeap := (baH6 p q r s u v i σ) ++ [baRc p q r s u v i]
def baH8 (p q r s u v : Nat → Int) (i : Nat) (σ : AHeap) : AHeap := (baH7 p q r s u v i σ) ++ [baL (3 + 11 * i + 6)]
def baH9 (p q r s u v : Nat → Int) (i : Nat) (σ : AHeap) : AHeap := (kl i (baP i 8) (baH8 p q r s u v i σ)) ++ [baT 6 (i + 1)]
def baH10 (p q r s u v : Nat → Int) (i : Nat) (σ : AHeap) : AHeap := (baH9 p q r s u v i σ) ++ [baW1 p q r s u v i]
def baH11 (p q r s u v : Nat → Int) (i : Nat) (σ : AHeap) : AHeap := (kl i (baP i 10) (baH10 p q r s u v i σ)) ++ [baW p q r s u v (i + 1)]
theorem baH1_len (p q r s u v : Nat → Int) (i : Nat) (σ : AHeap) : (baH1 p q r s u v i σ).length = σ.length + 1 := by unfold baH1; rw [List.length_append]; rfl
theorem baH2_len (p q r s u v : Nat → Int) (i : Nat) (σ : AHeap) : (baH2 p q r s u v i σ).length = σ.length + 2 := by unfold baH2; rw [List.length_append, baH1_len p q r s u v i σ]; rfl
theorem baH3_len (p q r s u v : Nat → Int) (i : Nat) (σ : AHeap) : (baH3 p q r s u v i σ).length = σ.length + 3 := by unfold baH3; rw [List.length_append, kl_len, baH2_len p q r s u v i σ]; rfl
theorem baH4_len (p q r s u v : Nat → Int) (i : Nat) (σ : AHeap) : (baH4 p q r s u v i σ).length = σ.length + 4 := by unfold baH4; rw [List.length_append, baH3_len p q r s u v i σ]; rfl
theorem baH5_len (p q r s u v : Nat → Int) (i : Nat) (σ : AHeap) : (baH5 p q r s u v i σ).length = σ.length + 5 := by unfold baH5; rw [List.length_append, baH4_len p q r s u v i σ]; rfl
theorem baH6_len (p q r s u v : Nat → Int) (i : Nat) (σ : AHeap) : (baH6 p q r s u v i σ).length = σ.length + 6 := by unfold baH6; rw [List.length_append, kl_len, baH5_len p q r s u v i σ]; rfl
theorem baH7_len (p q r s u v : Nat → Int) (i : Nat) (σ : AHeap) : (baH7 p q r s u v i σ).length = σ.length + 7 := by unfold baH7; rw [List.length_append, baH6_len p q r s u v i σ]; rfl
theorem baH8_len (p q r s u v : Nat → Int) (i : Nat) (σ : AHeap) : (baH8 p q r s u v i σ).length = σ.length + 8 := by unfold baH8; rw [List.length_append, baH7_len p q r s u v i σ]; rfl
theorem baH9_len (p q r s u v : Nat → Int) (i : Nat) (σ : AHeap) : (baH9 p q r s u v i σ).length = σ.length + 9 := by unfold baH9; rw [List.length_append, kl_len, baH8_len p q r s u v i σ]; rfl
theorem baH10_len (p q r s u v : Nat → Int) (i : Nat) (σ : AHeap) : (baH10 p q r s u v i σ).length = σ.length + 10 := by unfold baH10; rw [List.length_append, baH9_len p q r s u v i σ]; rfl
theorem baH11_len (p q r s u v : Nat → Int) (i : Nat) (σ : AHeap) : (baH11 p q r s u v i σ).length = σ.length + 11 := by unfold baH11; rw [List.length_append, kl_len, baH10_len p q r s u v i σ]; rfl
/-- What stood before and is not given up stands still. -/
theorem baH_old {p q r s u v : Nat → Int} {i b : Nat} {σ : AHeap} {o : AObj} (h : σ[b]? = some o) (h1 : 0 < i → baP i 2 ≠ b ∧ baP i 5 ≠ b ∧ baP i 8 ≠ b ∧ baP i 10 ≠ b) : ∀ k, k ≤ 11 → (match k with | 0 => σ | 1 => baH1 p q r s u v i σ | 2 => baH2 p q r s u v i σ | 3 => baH3 p q r s u v i σ | 4 => baH4 p q r s u v i σ | 5 => baH5 p q r s u v i σ | 6 => baH6 p q r s u v i σ | 7 => baH7 p q r s u v i σ | 8 => baH8 p q r s u v i σ | 9 => baH9 p q r s u v i σ | 10 => baH10 p q r s u v i σ | _ => baH11 p q r s u v i σ)[b]? = some o := by
  have g0 := h
  have g1 : (baH1 p q r s u v i σ)[b]? = some o := app_left g0
  have g2 : (baH2 p q r s u v i σ)[b]? = some o := app_left g1
  have g3 : (baH3 p q r s u v i σ)[b]? = some o := app_left (kl_get g2 fun hi => (h1 hi).1)
  have g4 : (baH4 p q r s u v i σ)[b]? = some o := app_left g3
  have g5 : (baH5 p q r s u v i σ)[b]? = some o := app_left g4
  have g6 : (baH6 p q r s u v i σ)[b]? = some o := app_left (kl_get g5 fun hi => (h1 hi).2.1)
  have g7 : (baH7 p q r s u v i σ)[b]? = some o := app_left g6
  have g8 : (baH8 p q r s u v i σ)[b]? = some o := app_left g7
  have g9 : (baH9 p q r s u v i σ)[b]? = some o := app_left (kl_get g8 fun hi => (h1 hi).2.2.1)
  have g10 : (baH10 p q r s u v i σ)[b]? = some o := app_left g9
  have g11 : (baH11 p q r s u v i σ)[b]? = some o := app_left (kl_get g10 fun hi => (h1 hi).2.2.2)
  intro k hk
  match k, hk with
  | 0, _ => exact g0
  | 1, _ => exact g1
  | 2, _ => exact g2
  | 3, _ => exact g3
  | 4, _ => exact g4
  | 5, _ => exact g5
  | 6, _ => exact g6
  | 7, _ => exact g7
  | 8, _ => exact g8
  | 9, _ => exact g9
  | 10, _ => exact g10
  | 11, _ => exact g11
  | k + 12, hk => omega
theorem baN0 {p q r s u v : Nat → Int} {i : Nat} {σ : AHeap} (hl : σ.length = 3 + 11 * i) : ∀ k, 1 ≤ k → k ≤ 11 → (match k with | 0 => σ | 1 => baH1 p q r s u v i σ | 2 => baH2 p q r s u v i σ | 3 => baH3 p q r s u v i σ | 4 => baH4 p q r s u v i σ | 5 => baH5 p q r s u v i σ | 6 => baH6 p q r s u v i σ | 7 => baH7 p q r s u v i σ | 8 => baH8 p q r s u v i σ | 9 => baH9 p q r s u v i σ | 10 => baH10 p q r s u v i σ | _ => baH11 p q r s u v i σ)[3 + 11 * i + 0]? = some (baRa p q r s u v i) := by
  have g1 : (baH1 p q r s u v i σ)[3 + 11 * i + 0]? = some (baRa p q r s u v i) := app_at (j := 0) rfl (by omega)
  have g2 : (baH2 p q r s u v i σ)[3 + 11 * i + 0]? = some (baRa p q r s u v i) := app_left g1
  have g3 : (baH3 p q r s u v i σ)[3 + 11 * i + 0]? = some (baRa p q r s u v i) := app_left (kl_get g2 fun hi => by unfold baP; omega)
  have g4 : (baH4 p q r s u v i σ)[3 + 11 * i + 0]? = some (baRa p q r s u v i) := app_left g3
  have g5 : (baH5 p q r s u v i σ)[3 + 11 * i + 0]? = some (baRa p q r s u v i) := app_left g4
  have g6 : (baH6 p q r s u v i σ)[3 + 11 * i + 0]? = some (baRa p q r s u v i) := app_left (kl_get g5 fun hi => by unfold baP; omega)
  have g7 : (baH7 p q r s u v i σ)[3 + 11 * i + 0]? = some (baRa p q r s u v i) := app_left g6
  have g8 : (baH8 p q r s u v i σ)[3 + 11 * i + 0]? = some (baRa p q r s u v i) := app_left g7
  have g9 : (baH9 p q r s u v i σ)[3 + 11 * i + 0]? = some (baRa p q r s u v i) := app_left (kl_get g8 fun hi => by unfold baP; omega)
  have g10 : (baH10 p q r s u v i σ)[3 + 11 * i + 0]? = some (baRa p q r s u v i) := app_left g9
  have g11 : (baH11 p q r s u v i σ)[3 + 11 * i + 0]? = some (baRa p q r s u v i) := app_left (kl_get g10 fun hi => by unfold baP; omega)
  intro k h1 h2
  match k, h1, h2 with
  | 1, _, _ => exact g1
  | 2, _, _ => exact g2
  | 3, _, _ => exact g3
  | 4, _, _ => exact g4
  | 5, _, _ => exact g5
  | 6, _, _ => exact g6
  | 7, _, _ => exact g7
  | 8, _, _ => exact g8
  | 9, _, _ => exact g9
  | 10, _, _ => exact g10
  | 11, _, _ => exact g11
  | 0, h1, _ => omega
  | k + 12, _, h2 => omega
theorem baN1 {p q r s u v : Nat → Int} {i : Nat} {σ : AHeap} (hl : σ.length = 3 + 11 * i) : ∀ k, 2 ≤ k → k ≤ 11 → (match k with | 0 => σ | 1 => baH1 p q r s u v i σ | 2 => baH2 p q r s u v i σ | 3 => baH3 p q r s u v i σ | 4 => baH4 p q r s u v i σ | 5 => baH5 p q r s u v i σ | 6 => baH6 p q r s u v i σ | 7 => baH7 p q r s u v i σ | 8 => baH8 p q r s u v i σ | 9 => baH9 p q r s u v i σ | 10 => baH10 p q r s u v i σ | _ => baH11 p q r s u v i σ)[3 + 11 * i + 1]? = some (baL (3 + 11 * i)) := by
  have g2 : (baH2 p q r s u v i σ)[3 + 11 * i + 1]? = some (baL (3 + 11 * i)) := app_at (j := 0) rfl (by have := baH1_len p q r s u v i σ; omega)
  have g3 : (baH3 p q r s u v i σ)[3 + 11 * i + 1]? = some (baL (3 + 11 * i)) := app_left (kl_get g2 fun hi => by unfold baP; omega)
  have g4 : (baH4 p q r s u v i σ)[3 + 11 * i + 1]? = some (baL (3 + 11 * i)) := app_left g3
  have g5 : (baH5 p q r s u v i σ)[3 + 11 * i + 1]? = some (baL (3 + 11 * i)) := app_left g4
  have g6 : (baH6 p q r s u v i σ)[3 + 11 * i + 1]? = some (baL (3 + 11 * i)) := app_left (kl_get g5 fun hi => by unfold baP; omega)
  have g7 : (baH7 p q r s u v i σ)[3 + 11 * i + 1]? = some (baL (3 + 11 * i)) := app_left g6
  have g8 : (baH8 p q r s u v i σ)[3 + 11 * i + 1]? = some (baL (3 + 11 * i)) := app_left g7
  have g9 : (baH9 p q r s u v i σ)[3 + 11 * i + 1]? = some (baL (3 + 11 * i)) := app_left (kl_get g8 fun hi => by unfold baP; omega)
  have g10 : (baH10 p q r s u v i σ)[3 + 11 * i + 1]? = some (baL (3 + 11 * i)) := app_left g9
  have g11 : (baH11 p q r s u v i σ)[3 + 11 * i + 1]? = some (baL (3 + 11 * i)) := app_left (kl_get g10 fun hi => by unfold baP; omega)
  intro k h1 h2
  match k, h1, h2 with
  | 2, _, _ => exact g2
  | 3, _, _ => exact g3
  | 4, _, _ => exact g4
  | 5, _, _ => exact g5
  | 6, _, _ => exact g6
  | 7, _, _ => exact g7
  | 8, _, _ => exact g8
  | 9, _, _ => exact g9
  | 10, _, _ => exact g10
  | 11, _, _ => exact g11
  | 0, h1, _ => omega
  | 1, h1, _ => omega
  | k + 12, _, h2 => omega
theorem baN2 {p q r s u v : Nat → Int} {i : Nat} {σ : AHeap} (hl : σ.length = 3 + 11 * i) : ∀ k, 3 ≤ k → k ≤ 11 → (match k with | 0 => σ | 1 => baH1 p q r s u v i σ | 2 => baH2 p q r s u v i σ | 3 => baH3 p q r s u v i σ | 4 => baH4 p q r s u v i σ | 5 => baH5 p q r s u v i σ | 6 => baH6 p q r s u v i σ | 7 => baH7 p q r s u v i σ | 8 => baH8 p q r s u v i σ | 9 => baH9 p q r s u v i σ | 10 => baH10 p q r s u v i σ | _ => baH11 p q r s u v i σ)[3 + 11 * i + 2]? = some (baT 0 (i + 1)) := by
  have g3 : (baH3 p q r s u v i σ)[3 + 11 * i + 2]? = some (baT 0 (i + 1)) := app_at (j := 0) rfl (by rw [kl_len]; have := baH2_len p q r s u v i σ; omega)
  have g4 : (baH4 p q r s u v i σ)[3 + 11 * i + 2]? = some (baT 0 (i + 1)) := app_left g3
  have g5 : (baH5 p q r s u v i σ)[3 + 11 * i + 2]? = some (baT 0 (i + 1)) := app_left g4
  have g6 : (baH6 p q r s u v i σ)[3 + 11 * i + 2]? = some (baT 0 (i + 1)) := app_left (kl_get g5 fun hi => by unfold baP; omega)
  have g7 : (baH7 p q r s u v i σ)[3 + 11 * i + 2]? = some (baT 0 (i + 1)) := app_left g6
  have g8 : (baH8 p q r s u v i σ)[3 + 11 * i + 2]? = some (baT 0 (i + 1)) := app_left g7
  have g9 : (baH9 p q r s u v i σ)[3 + 11 * i + 2]? = some (baT 0 (i + 1)) := app_left (kl_get g8 fun hi => by unfold baP; omega)
  have g10 : (baH10 p q r s u v i σ)[3 + 11 * i + 2]? = some (baT 0 (i + 1)) := app_left g9
  have g11 : (baH11 p q r s u v i σ)[3 + 11 * i + 2]? = some (baT 0 (i + 1)) := app_left (kl_get g10 fun hi => by unfold baP; omega)
  intro k h1 h2
  match k, h1, h2 with
  | 3, _, _ => exact g3
  | 4, _, _ => exact g4
  | 5, _, _ => exact g5
  | 6, _, _ => exact g6
  | 7, _, _ => exact g7
  | 8, _, _ => exact g8
  | 9, _, _ => exact g9
  | 10, _, _ => exact g10
  | 11, _, _ => exact g11
  | 0, h1, _ => omega
  | 1, h1, _ => omega
  | 2, h1, _ => omega
  | k + 12, _, h2 => omega
theorem baN3 {p q r s u v : Nat → Int} {i : Nat} {σ : AHeap} (hl : σ.length = 3 + 11 * i) : ∀ k, 4 ≤ k → k ≤ 11 → (match k with | 0 => σ | 1 => baH1 p q r s u v i σ | 2 => baH2 p q r s u v i σ | 3 => baH3 p q r s u v i σ | 4 => baH4 p q r s u v i σ | 5 => baH5 p q r s u v i σ | 6 => baH6 p q r s u v i σ | 7 => baH7 p q r s u v i σ | 8 => baH8 p q r s u v i σ | 9 => baH9 p q r s u v i σ | 10 => baH10 p q r s u v i σ | _ => baH11 p q r s u v i σ)[3 + 11 * i + 3]? = some (baRb p q r s u v i) := by
  have g4 : (baH4 p q r s u v i σ)[3 + 11 * i + 3]? = some (baRb p q r s u v i) := app_at (j := 0) rfl (by have := baH3_len p q r s u v i σ; omega)
  have g5 : (baH5 p q r s u v i σ)[3 + 11 * i + 3]? = some (baRb p q r s u v i) := app_left g4
  have g6 : (baH6 p q r s u v i σ)[3 + 11 * i + 3]? = some (baRb p q r s u v i) := app_left (kl_get g5 fun hi => by unfold baP; omega)
  have g7 : (baH7 p q r s u v i σ)[3 + 11 * i + 3]? = some (baRb p q r s u v i) := app_left g6
  have g8 : (baH8 p q r s u v i σ)[3 + 11 * i + 3]? = some (baRb p q r s u v i) := app_left g7
  have g9 : (baH9 p q r s u v i σ)[3 + 11 * i + 3]? = some (baRb p q r s u v i) := app_left (kl_get g8 fun hi => by unfold baP; omega)
  have g10 : (baH10 p q r s u v i σ)[3 + 11 * i + 3]? = some (baRb p q r s u v i) := app_left g9
  have g11 : (baH11 p q r s u v i σ)[3 + 11 * i + 3]? = some (baRb p q r s u v i) := app_left (kl_get g10 fun hi => by unfold baP; omega)
  intro k h1 h2
  match k, h1, h2 with
  | 4, _, _ => exact g4
  | 5, _, _ => exact g5
  | 6, _, _ => exact g6
  | 7, _, _ => exact g7
  | 8, _, _ => exact g8
  | 9, _, _ => exact g9
  | 10, _, _ => exact g10
  | 11, _, _ => exact g11
  | 0, h1, _ => omega
  | 1, h1, _ => omega
  | 2, h1, _ => omega
  | 3, h1, _ => omega
  | k + 12, _, h2 => omega
theorem baN4 {p q r s u v : Nat → Int} {i : Nat} {σ : AHeap} (hl : σ.length = 3 + 11 * i) : ∀ k, 5 ≤ k → k ≤ 11 → (match k with | 0 => σ | 1 => baH1 p q r s u v i σ | 2 => baH2 p q r s u v i σ | 3 => baH3 p q r s u v i σ | 4 => baH4 p q r s u v i σ | 5 => baH5 p q r s u v i σ | 6 => baH6 p q r s u v i σ | 7 => baH7 p q r s u v i σ | 8 => baH8 p q r s u v i σ | 9 => baH9 p q r s u v i σ | 10 => baH10 p q r s u v i σ | _ => baH11 p q r s u v i σ)[3 + 11 * i + 4]? = some (baL (3 + 11 * i + 3)) := by
  have g5 : (baH5 p q r s u v i σ)[3 + 11 * i + 4]? = some (baL (3 + 11 * i + 3)) := app_at (j := 0) rfl (by have := baH4_len p q r s u v i σ; omega)
  have g6 : (baH6 p q r s u v i σ)[3 + 11 * i + 4]? = some (baL (3 + 11 * i + 3)) := app_left (kl_get g5 fun hi => by unfold baP; omega)
  have g7 : (baH7 p q r s u v i σ)[3 + 11 * i + 4]? = some (baL (3 + 11 * i + 3)) := app_left g6
  have g8 : (baH8 p q r s u v i σ)[3 + 11 * i + 4]? = some (baL (3 + 11 * i + 3)) := app_left g7
  have g9 : (baH9 p q r s u v i σ)[3 + 11 * i + 4]? = some (baL (3 + 11 * i + 3)) := app_left (kl_get g8 fun hi => by unfold baP; omega)
  have g10 : (baH10 p q r s u v i σ)[3 + 11 * i + 4]? = some (baL (3 + 11 * i + 3)) := app_left g9
  have g11 : (baH11 p q r s u v i σ)[3 + 11 * i + 4]? = some (baL (3 + 11 * i + 3)) := app_left (kl_get g10 fun hi => by unfold baP; omega)
  intro k h1 h2
  match k, h1, h2 with
  | 5, _, _ => exact g5
  | 6, _, _ => exact g6
  | 7, _, _ => exact g7
  | 8, _, _ => exact g8
  | 9, _, _ => exact g9
  | 10, _, _ => exact g10
  | 11, _, _ => exact g11
  | 0, h1, _ => omega
  | 1, h1, _ => omega
  | 2, h1, _ => omega
  | 3, h1, _ => omega
  | 4, h1, _ => omega
  | k + 12, _, h2 => omega
theorem baN5 {p q r s u v : Nat → Int} {i : Nat} {σ : AHeap} (hl : σ.length = 3 + 11 * i) : ∀ k, 6 ≤ k → k ≤ 11 → (match k with | 0 => σ | 1 => baH1 p q r s u v i σ | 2 => baH2 p q r s u v i σ | 3 => baH3 p q r s u v i σ | 4 => baH4 p q r s u v i σ | 5 => baH5 p q r s u v i σ | 6 => baH6 p q r s u v i σ | 7 => baH7 p q r s u v i σ | 8 => baH8 p q r s u v i σ | 9 => baH9 p q r s u v i σ | 10 => baH10 p q r s u v i σ | _ => baH11 p q r s u v i σ)[3 + 11 * i + 5]? = some (baT 3 (i + 1)) := by
  have g6 : (baH6 p q r s u v i σ)[3 + 11 * i + 5]? = some (baT 3 (i + 1)) := app_at (j := 0) rfl (by rw [kl_len]; have := baH5_len p q r s u v i σ; omega)
  have g7 : (baH7 p q r s u v i σ)[3 + 11 * i + 5]? = some (baT 3 (i + 1)) := app_left g6
  have g8 : (baH8 p q r s u v i σ)[3 + 11 * i + 5]? = some (baT 3 (i + 1)) := app_left g7
  have g9 : (baH9 p q r s u v i σ)[3 + 11 * i + 5]? = some (baT 3 (i + 1)) := app_left (kl_get g8 fun hi => by unfold baP; omega)
  have g10 : (baH10 p q r s u v i σ)[3 + 11 * i + 5]? = some (baT 3 (i + 1)) := app_left g9
  have g11 : (baH11 p q r s u v i σ)[3 + 11 * i + 5]? = some (baT 3 (i + 1)) := app_left (kl_get g10 fun hi => by unfold baP; omega)
  intro k h1 h2
  match k, h1, h2 with
  | 6, _, _ => exact g6
  | 7, _, _ => exact g7
  | 8, _, _ => exact g8
  | 9, _, _ => exact g9
  | 10, _, _ => exact g10
  | 11, _, _ => exact g11
  | 0, h1, _ => omega
  | 1, h1, _ => omega
  | 2, h1, _ => omega
  | 3, h1, _ => omega
  | 4, h1, _ => omega
  | 5, h1, _ => omega
  | k + 12, _, h2 => omega
theorem baN6 {p q r s u v : Nat → Int} {i : Nat} {σ : AHeap} (hl : σ.length = 3 + 11 * i) : ∀ k, 7 ≤ k → k ≤ 11 → (match k with | 0 => σ | 1 => baH1 p q r s u v i σ | 2 => baH2 p q r s u v i σ | 3 => baH3 p q r s u v i σ | 4 => baH4 p q r s u v i σ | 5 => baH5 p q r s u v i σ | 6 => baH6 p q r s u v i σ | 7 => baH7 p q r s u v i σ | 8 => baH8 p q r s u v i σ | 9 => baH9 p q r s u v i σ | 10 => baH10 p q r s u v i σ | _ => baH11 p q r s u v i σ)[3 + 11 * i + 6]? = some (baRc p q r s u v i) := by
  have g7 : (baH7 p q r s u v i σ)[3 + 11 * i + 6]? = some (baRc p q r s u v i) := app_at (j := 0) rfl (by have := baH6_len p q r s u v i σ; omega)
  have g8 : (baH8 p q r s u v i σ)[3 + 11 * i + 6]? = some (baRc p q r s u v i) := app_left g7
  have g9 : (baH9 p q r s u v i σ)[3 + 11 * i + 6]? = some (baRc p q r s u v i) := app_left (kl_get g8 fun hi => by unfold baP; omega)
  have g10 : (baH10 p q r s u v i σ)[3 + 11 * i + 6]? = some (baRc p q r s u v i) := app_left g9
  have g11 : (baH11 p q r s u v i σ)[3 + 11 * i + 6]? = some (baRc p q r s u v i) := app_left (kl_get g10 fun hi => by unfold baP; omega)
  intro k h1 h2
  match k, h1, h2 with
  | 7, _, _ => exact g7
  | 8, _, _ => exact g8
  | 9, _, _ => exact g9
  | 10, _, _ => exact g10
  | 11, _, _ => exact g11
  | 0, h1, _ => omega
  | 1, h1, _ => omega
  | 2, h1, _ => omega
  | 3, h1, _ => omega
  | 4, h1, _ => omega
  | 5, h1, _ => omega
  | 6, h1, _ => omega
  | k + 12, _, h2 => omega
theorem baN7 {p q r s u v : Nat → Int} {i : Nat} {σ : AHeap} (hl : σ.length = 3 + 11 * i) : ∀ k, 8 ≤ k → k ≤ 11 → (match k with | 0 => σ | 1 => baH1 p q r s u v i σ | 2 => baH2 p q r s u v i σ | 3 => baH3 p q r s u v i σ | 4 => baH4 p q r s u v i σ | 5 => baH5 p q r s u v i σ | 6 => baH6 p q r s u v i σ | 7 => baH7 p q r s u v i σ | 8 => baH8 p q r s u v i σ | 9 => baH9 p q r s u v i σ | 10 => baH10 p q r s u v i σ | _ => baH11 p q r s u v i σ)[3 + 11 * i + 7]? = some (baL (3 + 11 * i + 6)) := by
  have g8 : (baH8 p q r s u v i σ)[3 + 11 * i + 7]? = some (baL (3 + 11 * i + 6)) := app_at (j := 0) rfl (by have := baH7_len p q r s u v i σ; omega)
  have g9 : (baH9 p q r s u v i σ)[3 + 11 * i + 7]? = some (baL (3 + 11 * i + 6)) := app_left (kl_get g8 fun hi => by unfold baP; omega)
  have g10 : (baH10 p q r s u v i σ)[3 + 11 * i + 7]? = some (baL (3 + 11 * i + 6)) := app_left g9
  have g11 : (baH11 p q r s u v i σ)[3 + 11 * i + 7]? = some (baL (3 + 11 * i + 6)) := app_left (kl_get g10 fun hi => by unfold baP; omega)
  intro k h1 h2
  match k, h1, h2 with
  | 8, _, _ => exact g8
  | 9, _, _ => exact g9
  | 10, _, _ => exact g10
  | 11, _, _ => exact g11
  | 0, h1, _ => omega
  | 1, h1, _ => omega
  | 2, h1, _ => omega
  | 3, h1, _ => omega
  | 4, h1, _ => omega
  | 5, h1, _ => omega
  | 6, h1, _ => omega
  | 7, h1, _ => omega
  | k + 12, _, h2 => omega
theorem baN8 {p q r s u v : Nat → Int} {i : Nat} {σ : AHeap} (hl : σ.length = 3 + 11 * i) : ∀ k, 9 ≤ k → k ≤ 11 → (match k with | 0 => σ | 1 => baH1 p q r s u v i σ | 2 => baH2 p q r s u v i σ | 3 => baH3 p q r s u v i σ | 4 => baH4 p q r s u v i σ | 5 => baH5 p q r s u v i σ | 6 => baH6 p q r s u v i σ | 7 => baH7 p q r s u v i σ | 8 => baH8 p q r s u v i σ | 9 => baH9 p q r s u v i σ | 10 => baH10 p q r s u v i σ | _ => baH11 p q r s u v i σ)[3 + 11 * i + 8]? = some (baT 6 (i + 1)) := by
  have g9 : (baH9 p q r s u v i σ)[3 + 11 * i + 8]? = some (baT 6 (i + 1)) := app_at (j := 0) rfl (by rw [kl_len]; have := baH8_len p q r s u v i σ; omega)
  have g10 : (baH10 p q r s u v i σ)[3 + 11 * i + 8]? = some (baT 6 (i + 1)) := app_left g9
  have g11 : (baH11 p q r s u v i σ)[3 + 11 * i + 8]? = some (baT 6 (i + 1)) := app_left (kl_get g10 fun hi => by unfold baP; omega)
  intro k h1 h2
  match k, h1, h2 with
  | 9, _, _ => exact g9
  | 10, _, _ => exact g10
  | 11, _, _ => exact g11
  | 0, h1, _ => omega
  | 1, h1, _ => omega
  | 2, h1, _ => omega
  | 3, h1, _ => omega
  | 4, h1, _ => omega
  | 5, h1, _ => omega
  | 6, h1, _ => omega
  | 7, h1, _ => omega
  | 8, h1, _ => omega
  | k + 12, _, h2 => omega
theorem baN9 {p q r s u v : Nat → Int} {i : Nat} {σ : AHeap} (hl : σ.length = 3 + 11 * i) : ∀ k, 10 ≤ k → k ≤ 11 → (match k with | 0 => σ | 1 => baH1 p q r s u v i σ | 2 => baH2 p q r s u v i σ | 3 => baH3 p q r s u v i σ | 4 => baH4 p q r s u v i σ | 5 => baH5 p q r s u v i σ | 6 => baH6 p q r s u v i σ | 7 => baH7 p q r s u v i σ | 8 => baH8 p q r s u v i σ | 9 => baH9 p q r s u v i σ | 10 => baH10 p q r s u v i σ | _ => baH11 p q r s u v i σ)[3 + 11 * i + 9]? = some (baW1 p q r s u v i) := by
  have g10 : (baH10 p q r s u v i σ)[3 + 11 * i + 9]? = some (baW1 p q r s u v i) := app_at (j := 0) rfl (by have := baH9_len p q r s u v i σ; omega)
  have g11 : (baH11 p q r s u v i σ)[3 + 11 * i + 9]? = some (baW1 p q r s u v i) := app_left (kl_get g10 fun hi => by unfold baP; omega)
  intro k h1 h2
  match k, h1, h2 with
  | 10, _, _ => exact g10
  | 11, _, _ => exact g11
  | 0, h1, _ => omega
  | 1, h1, _ => omega
  | 2, h1, _ => omega
  | 3, h1, _ => omega
  | 4, h1, _ => omega
  | 5, h1, _ => omega
  | 6, h1, _ => omega
  | 7, h1, _ => omega
  | 8, h1, _ => omega
  | 9, h1, _ => omega
  | k + 12, _, h2 => omega
theorem baN10 {p q r s u v : Nat → Int} {i : Nat} {σ : AHeap} (hl : σ.length = 3 + 11 * i) : ∀ k, 11 ≤ k → k ≤ 11 → (match k with | 0 => σ | 1 => baH1 p q r s u v i σ | 2 => baH2 p q r s u v i σ | 3 => baH3 p q r s u v i σ | 4 => baH4 p q r s u v i σ | 5 => baH5 p q r s u v i σ | 6 => baH6 p q r s u v i σ | 7 => baH7 p q r s u v i σ | 8 => baH8 p q r s u v i σ | 9 => baH9 p q r s u v i σ | 10 => baH10 p q r s u v i σ | _ => baH11 p q r s u v i σ)[3 + 11 * i + 10]? = some (baW p q r s u v (i + 1)) := by
  have g11 : (baH11 p q r s u v i σ)[3 + 11 * i + 10]? = some (baW p q r s u v (i + 1)) := app_at (j := 0) rfl (by rw [kl_len]; have := baH10_len p q r s u v i σ; omega)
  intro k h1 h2
  match k, h1, h2 with
  | 11, _, _ => exact g11
  | 0, h1, _ => omega
  | 1, h1, _ => omega
  | 2, h1, _ => omega
  | 3, h1, _ => omega
  | 4, h1, _ => omega
  | 5, h1, _ => omega
  | 6, h1, _ => omega
  | 7, h1, _ => omega
  | 8, h1, _ => omega
  | 9, h1, _ => omega
  | 10, h1, _ => omega
  | k + 12, _, h2 => omega
end Go.Lk
end

section
/- BeamAdds: the loop that builds, and what is formed. -/
namespace Go.Lk
open Go.Proofs
set_option maxRecDepth 100000
set_option maxHeartbeats 0
set_option linter.unusedVariables false
set_option linter.unusedSimpArgs false
def baIn (x y : Nat → Int) (M : Nat) (o : Option Nat) : AObj := .row (rowOf (fun k => [.int .i64 (x k), .int .i64 (y k)]) M) false o
structure BaInv (p q r s u v : Nat → Int) (M1 M2 M3 : Nat) (o1 o2 o3 : Option Nat) (i : Nat) (σ : AHeap) : Prop where
  len : σ.length = 3 + 11 * i
  i0 : σ[0]? = some (baIn p q M1 o1)
  i1 : σ[1]? = some (baIn r s M2 o2)
  i2 : σ[2]? = some (baIn u v M3 o3)
  rows : ∀ k, k < i → σ[3 + 11 * k + 0]? = some (baRa p q r s u v k) ∧ σ[3 + 11 * k + 3]? = some (baRb p q r s u v k) ∧ σ[3 + 11 * k + 6]? = some (baRc p q r s u v k)
  top : 0 < i → σ[baP i 2]? = some (baT 0 i) ∧ σ[baP i 5]? = some (baT 3 i) ∧ σ[baP i 8]? = some (baT 6 i) ∧ σ[baP i 10]? = some (baW p q r s u v i)
section
variable {p q r s u v : Nat → Int} {M1 M2 M3 : Nat} {o1 o2 o3 : Option Nat}
theorem BaInv.step {i : Nat} {σ : AHeap} (h : BaInv p q r s u v M1 M2 M3 o1 o2 o3 i σ) : BaInv p q r s u v M1 M2 M3 o1 o2 o3 (i + 1) (baH11 p q r s u v i σ) := by
  have hlt : ∀ {b : Nat} {o : AObj}, σ[b]? = some o → b < 3 + 11 * i := fun hb => by have := lt_of_some hb; rw [h.len] at this; exact this
  refine ⟨by rw [baH11_len, h.len]; omega, baH_old h.i0 (fun hi => by unfold baP; omega) 11 (by omega), baH_old h.i1 (fun hi => by unfold baP; omega) 11 (by omega), baH_old h.i2 (fun hi => by unfold baP; omega) 11 (by omega), fun k hk => ?_, fun _ => ?_⟩
  · by_cases hki : k = i
    · subst hki
      exact ⟨baN0 h.len 11 (by omega) (by omega), baN3 h.len 11 (by omega) (by omega), baN6 h.len 11 (by omega) (by omega)⟩
    · obtain ⟨r1, r2, r3⟩ := h.rows k (by omega)
      exact ⟨baH_old r1 (fun hi => by unfold baP; omega) 11 (by omega), baH_old r2 (fun hi => by unfold baP; omega) 11 (by omega), baH_old r3 (fun hi => by unfold baP; omega) 11 (by omega)⟩
  · unfold baP
    rw [Nat.add_sub_cancel]
    exact ⟨baN2 h.len 11 (by omega) (by omega), baN5 h.len 11 (by omega) (by omega), baN8 h.len 11 (by omega) (by omega), baN10 h.len 11 (by omega) (by omega)⟩
def baF' (n1 c1 n2 c2 n c3 i : Nat) : List Value := baF n1 c1 n2 c2 n c3 (klA i (baP i 2)) (klA i (baP i 5)) (klA i (baP i 8)) (klA i (baP i 10)) i
theorem ba_ld {x y : Nat → Int} {M b i : Nat} {o : Option Nat} {σ : AHeap} (h : σ[b]? = some (baIn x y M o)) (hi : i < M) : aLoad Try.prog σ 128 (.pointer (some ⟨b, 0 + i * 2, none⟩)) = some (.agg #[.int .i64 (x i), .int .i64 (y i)]) :=
  load_agg (s := 2) (k := i) (n := M) (f := fun k => [.int .i64 (x k), .int .i64 (y k)]) h (by kernel_rfl) (by kernel_rfl) (fun _ => rfl) (by omega) hi
theorem ba_build {a b : Nat} {k : Nat} {σ : AHeap} {o : AObj} (h : a = b) : some (Value.slice (some ⟨a, 0, some 1⟩) k k, σ ++ [o]) = some (Value.slice (some ⟨b, 0, some 1⟩) k k, σ ++ [o]) := by rw [h]
theorem ba_round (n1 c1 n2 c2 n c3 : Nat) (h0 : 0 < n) (hn : n ≤ 64) (hn1 : n ≤ n1) (hn2 : n ≤ n2) (hm1 : n1 ≤ M1) (hm2 : n2 ≤ M2) (hm3 : n ≤ M3) {i : Nat} (hi : i < n) {σ : AHeap} (h : BaInv p q r s u v M1 M2 M3 o1 o2 o3 i σ) (hst : Stood false []) :
    Sim dLBa 3 (loopOf Try.f26 0) (baF' n1 c1 n2 c2 n c3 i) σ .normal (baF' n1 c1 n2 c2 n c3 (i + 1)) (baH11 p q r s u v i σ) := by
  have hl := h.len
  have l1 := baH1_len p q r s u v i σ
  have l2 := baH2_len p q r s u v i σ
  have l3 := baH3_len p q r s u v i σ
  have l4 := baH4_len p q r s u v i σ
  have l5 := baH5_len p q r s u v i σ
  have l6 := baH6_len p q r s u v i σ
  have l7 := baH7_len p q r s u v i σ
  have l8 := baH8_len p q r s u v i σ
  have l9 := baH9_len p q r s u v i σ
  have l10 := baH10_len p q r s u v i σ
  have old : ∀ {b : Nat} {o : AObj}, σ[b]? = some o → ∀ j, (0 < i → b = baP i j) → (0 < i → 2 ≤ j ∧ j ≤ 10) → True := fun _ _ _ _ => trivial
  have top := h.top
  have hs := ba1_p0 σ p q r s u v n1 c1 n2 c2 n c3 h0 hn hn1 hn2 (klA i (baP i 2)) (klA i (baP i 5)) (klA i (baP i 8)) (klA i (baP i 10)) (some ⟨3 + 11 * i + 2, 0, some 1⟩) (some ⟨3 + 11 * i + 5, 0, some 1⟩) (some ⟨3 + 11 * i + 8, 0, some 1⟩) (some ⟨3 + 11 * i + 10, 0, some 1⟩) (3 + 11 * i)
    (baH1 p q r s u v i σ) (baH2 p q r s u v i σ) (baH3 p q r s u v i σ) (baH4 p q r s u v i σ) (baH5 p q r s u v i σ) (baH6 p q r s u v i σ) (baH7 p q r s u v i σ) (baH8 p q r s u v i σ) (baH9 p q r s u v i σ) (baH10 p q r s u v i σ) (baH11 p q r s u v i σ) i hi
    (ba_app (F := fun k => [.complex .f64 (wh (u k)) (wh (v k))]) (by kernel_rfl) (by omega) (baN9 hl 10 (by omega) (by omega)) (fun h0 => by
      have g0 := (top h0).2.2.2
      have g1 : (baH1 p q r s u v i σ)[baP i 10]? = some (baW p q r s u v i) := app_left g0
      have g2 : (baH2 p q r s u v i σ)[baP i 10]? = some (baW p q r s u v i) := app_left g1
      have g3 : (baH3 p q r s u v i σ)[baP i 10]? = some (baW p q r s u v i) := app_left (kl_get g2 fun _ => by unfold baP; omega)
      have g4 : (baH4 p q r s u v i σ)[baP i 10]? = some (baW p q r s u v i) := app_left g3
      have g5 : (baH5 p q r s u v i σ)[baP i 10]? = some (baW p q r s u v i) := app_left g4
      have g6 : (baH6 p q r s u v i σ)[baP i 10]? = some (baW p q r s u v i) := app_left (kl_get g5 fun _ => by unfold baP; omega)
      have g7 : (baH7 p q r s u v i σ)[baP i 10]? = some (baW p q r s u v i) := app_left g6
      have g8 : (baH8 p q r s u v i σ)[baP i 10]? = some (baW p q r s u v i) := app_left g7
      have g9 : (baH9 p q r s u v i σ)[baP i 10]? = some (baW p q r s u v i) := app_left (kl_get g8 fun _ => by unfold baP; omega)
      have g10 : (baH10 p q r s u v i σ)[baP i 10]? = some (baW p q r s u v i) := app_left g9
      exact g10) (fun _ => rfl) (fun _ => by kernel_rfl) (by omega))
    (ba_build (by omega))
    (ba_ld (baH_old h.i2 (fun hi => by unfold baP; omega) 9 (by omega)) (by omega))
    (ba_app (F := fun k => [.slice (some ⟨3 + 11 * k + 6, 0, some 1⟩) 2 2]) (by kernel_rfl) (by omega) (baN7 hl 8 (by omega) (by omega)) (fun h0 => by
      have g0 := (top h0).2.2.1
      have g1 : (baH1 p q r s u v i σ)[baP i 8]? = some (baT 6 i) := app_left g0
      have g2 : (baH2 p q r s u v i σ)[baP i 8]? = some (baT 6 i) := app_left g1
      have g3 : (baH3 p q r s u v i σ)[baP i 8]? = some (baT 6 i) := app_left (kl_get g2 fun _ => by unfold baP; omega)
      have g4 : (baH4 p q r s u v i σ)[baP i 8]? = some (baT 6 i) := app_left g3
      have g5 : (baH5 p q r s u v i σ)[baP i 8]? = some (baT 6 i) := app_left g4
      have g6 : (baH6 p q r s u v i σ)[baP i 8]? = some (baT 6 i) := app_left (kl_get g5 fun _ => by unfold baP; omega)
      have g7 : (baH7 p q r s u v i σ)[baP i 8]? = some (baT 6 i) := app_left g6
      have g8 : (baH8 p q r s u v i σ)[baP i 8]? = some (baT 6 i) := app_left g7
      exact g8) (fun _ => rfl) (fun _ => by kernel_rfl) (by omega))
    (ba_build (by omega)) (ba_build (by omega))
    (ba_app (F := fun k => [.slice (some ⟨3 + 11 * k + 3, 0, some 1⟩) 2 2]) (by kernel_rfl) (by omega) (baN4 hl 5 (by omega) (by omega)) (fun h0 => by
      have g0 := (top h0).2.1
      have g1 : (baH1 p q r s u v i σ)[baP i 5]? = some (baT 3 i) := app_left g0
      have g2 : (baH2 p q r s u v i σ)[baP i 5]? = some (baT 3 i) := app_left g1
      have g3 : (baH3 p q r s u v i σ)[baP i 5]? = some (baT 3 i) := app_left (kl_get g2 fun _ => by unfold baP; omega)
      have g4 : (baH4 p q r s u v i σ)[baP i 5]? = some (baT 3 i) := app_left g3
      have g5 : (baH5 p q r s u v i σ)[baP i 5]? = some (baT 3 i) := app_left g4
      exact g5) (fun _ => rfl) (fun _ => by kernel_rfl) (by omega))
    (ba_build (by omega)) (ba_build (by omega))
    (ba_app (F := fun k => [.slice (some ⟨3 + 11 * k + 0, 0, some 1⟩) 2 2]) (by kernel_rfl) (by omega) (baN1 hl 2 (by omega) (by omega)) (fun h0 => by
      have g0 := (top h0).1
      have g1 : (baH1 p q r s u v i σ)[baP i 2]? = some (baT 0 i) := app_left g0
      have g2 : (baH2 p q r s u v i σ)[baP i 2]? = some (baT 0 i) := app_left g1
      exact g2) (fun _ => rfl) (fun _ => by kernel_rfl) (by omega))
    (ba_build (by omega)) (ba_build (by omega))
    (ba_ld h.i1 (by omega)) (ba_ld h.i0 (by omega)) hst
  have e : ∀ j, baP (i + 1) j = 3 + 11 * i + j := fun j => by unfold baP; rw [Nat.add_sub_cancel]
  refine (hs.1.le (by omega)).cast (by kernel_rfl) rfl ?_ rfl
  unfold baF'
  rw [e, e, e, e]
  kernel_rfl
def baS (p q r s u v : Nat → Int) (M1 M2 M3 : Nat) (o1 o2 o3 : Option Nat) : Nat → AHeap
  | 0 => [baIn p q M1 o1, baIn r s M2 o2, baIn u v M3 o3]
  | i + 1 => baH11 p q r s u v i (baS p q r s u v M1 M2 M3 o1 o2 o3 i)
theorem baS_inv : ∀ i, BaInv p q r s u v M1 M2 M3 o1 o2 o3 i (baS p q r s u v M1 M2 M3 o1 o2 o3 i)
  | 0 => ⟨rfl, rfl, rfl, rfl, fun k hk => by omega, fun h => by omega⟩
  | i + 1 => (baS_inv i).step
theorem ba_loop (n1 c1 n2 c2 n c3 : Nat) (h0 : 0 < n) (hn : n ≤ 64) (hn1 : n ≤ n1) (hn2 : n ≤ n2) (hm1 : n1 ≤ M1) (hm2 : n2 ≤ M2) (hm3 : n ≤ M3) (hst : Stood false []) :
    Sim dLBa 3 (.loop (loopOf Try.f26 0)) (baF' n1 c1 n2 c2 n c3 0) (baS p q r s u v M1 M2 M3 o1 o2 o3 0) (.exit 0) (baF' n1 c1 n2 c2 n c3 n) (baS p q r s u v M1 M2 M3 o1 o2 o3 n) :=
  Sim.loop (fun i => (baF' n1 c1 n2 c2 n c3 i, baS p q r s u v M1 M2 M3 o1 o2 o3 i)) n (fun i hi => ba_round n1 c1 n2 c2 n c3 h0 hn hn1 hn2 hm1 hm2 hm3 hi (baS_inv i) hst)
    (((baE_p0 (baS p q r s u v M1 M2 M3 o1 o2 o3 n) p q r s u v n1 c1 n2 c2 n c3 h0 hn hn1 hn2 (klA n (baP n 2)) (klA n (baP n 5)) (klA n (baP n 8)) (klA n (baP n 10)) hst).1.le (by rw [(baS_inv n).len]; omega)).cast (by kernel_rfl) rfl (by kernel_rfl) rfl) rfl
end
end Go.Lk
end

section
/- Own: how alike a row is to itself; its rounds. -/
namespace Go.Lk
open Go.Proofs
set_option maxRecDepth 100000
set_option maxHeartbeats 0
set_option linter.unusedVariables false
set_option linter.unusedSimpArgs false
end Go.Lk
end

section
/- Own, of any row: its contract. -/
namespace Go.Lk
open Go.Proofs
set_option maxRecDepth 100000
set_option maxHeartbeats 0
set_option linter.unusedVariables false
set_option linter.unusedSimpArgs false
end Go.Lk
end
