import Derived.Test.YtmomainjlncogaaLkJO
import Derived.Test.YtmomainjlncogaaLkAN
import Derived.Test.YtmomainjlncogaaLkJN
section
/- Null: its contract. -/
namespace Go.Lk
open Go.Proofs
set_option maxRecDepth 100000
set_option linter.unusedVariables false
set_option linter.unusedSimpArgs false
/-- What a walk over a small heap shows. -/
def AnCallF (f : FuncId) (args : List Value) (σ0 : AHeap) (z : Nat) (row : (Nat → Nat) → (Nat → Nat) → Nat → List Value) (x : An) : Prop :=
  (x.n = 0 ∧ ∃ σ', CallR Try.prog false f args σ0 (aVal 0 z x) σ') ∨
  (0 < x.n ∧ ∃ σ' k o, CallR Try.prog false f args σ0 (aVal k z x) σ' ∧ σ'[k]? = some (.row (row x.a x.b x.n) true o) ∧ (o = none ∨ o = some z))
theorem AnCallF.lift {f : FuncId} {args0 args : List Value} {σ0 σ : AHeap} {z : Nat} {row : (Nat → Nat) → (Nat → Nat) → Nat → List Value} {x : An} {r : Nat → Nat} (hp : ∀ a b n, (row a b n).all plain = true)
    (hs : Reads σ0 r σ) (ha : args0.map (renV r 3) = args) (hc : AnCallF f args0 σ0 z row x) : CallR Try.prog false f args σ (aVal σ.length z x) (σ ++ [aObj z row x]) := by
  rcases hc with ⟨h0, σ1, hc⟩ | ⟨h0, σ1, k, o, hc, hk, ho⟩
  · have e1 : aVal σ.length z x = aVal 0 z x := by unfold aVal; rw [h0]; rfl
    have e2 : aObj z row x = .dead := by unfold aObj; rw [h0]
    rw [e1, e2]
    have hv : plain (aVal 0 z x) = true := by unfold aVal; rw [h0]; rfl
    exact (CallR.frameQ hs ha hc hv).addDead hv
  · obtain ⟨n, hn⟩ : ∃ n, x.n = n + 1 := ⟨x.n - 1, by omega⟩
    have e2 : aObj z row x = .row (row x.a x.b x.n) true (some z) := by unfold aObj; rw [hn]
    rw [e2]
    have hN : CallR Try.prog false f args σ (aVal σ.length z x) (σ ++ [.row (row x.a x.b x.n) true o]) := by
      refine CallR.frameN (q := fun b => if b = σ.length then k else b + σ1.length) hs ha hc hk (hp _ _ _) (fun _ => rfl) ?_
      unfold aVal
      rw [hn]
      simp [aSl, renV]
    rcases ho with rfl | rfl
    · exact hN.loosen z (hp _ _ _)
    · exact hN
def sNu (z : Nat) (row : (Nat → Nat) → (Nat → Nat) → Nat → List Value) (h : Nat → (Nat → Nat) → Nat → Int → An) (nl : Bool) : HeapFn
  | [.int .i64 mi, .float .f64 d, .slice none 0 0], σ => bif nl then some (aVal σ.length z (h d (fun _ => 0) 0 mi), σ ++ [aObj z row (h d (fun _ => 0) 0 mi)]) else none
  | [.int .i64 mi, .float .f64 d, .slice (some ⟨b, 0, some 1⟩) n cap], σ =>
    match σ[b]? with
    | some (.row vs _ _) => bif nOk vs n then some (aVal σ.length z (h d (nAt vs) n mi), σ ++ [aObj z row (h d (nAt vs) n mi)]) else none
    | _ => none
  | _, _ => none
theorem sNu_is {f : FuncId} {z : Nat} {row : (Nat → Nat) → (Nat → Nat) → Nat → List Value} {h : Nat → (Nat → Nat) → Nat → Int → An} {nl : Bool} (hp : ∀ a b n, (row a b n).all plain = true)
    (hN : nl = true → ∀ d mi, AnCallF f [.int .i64 mi, .float .f64 d, .slice none 0 0] [] z row (h d (fun _ => 0) 0 mi))
    (hS : ∀ opn (x : Nat → Nat) M n cap d mi, n ≤ M → n ≤ 65536 → AnCallF f [.int .i64 mi, .float .f64 d, .slice (some ⟨0, 0, some 1⟩) n cap] [.row (rowOf (fun i => [.float .f64 (x i)]) M) false opn] z row (h d x n mi)) : IsHeap Try.prog false f false (sNu z row h nl) := by
  refine ⟨fun args σ v σ' hs => ?_, (by intro h; cases h), fun args σ v σ' hs => ?_⟩
  · unfold sNu at hs
    split at hs
    · rename_i mi d
      cases nl
      · cases hs
      · cases hs
        exact (hN rfl d mi).lift (r := fun k => k + σ.length) hp ⟨fun k o hk => by simp at hk, fun k hk => by omega⟩ rfl
    · rename_i mi d b n cap
      split at hs
      · rename_i vs rw' opn hb
        cases hc : nOk vs n
        · rw [hc] at hs; cases hs
        · rw [hc] at hs
          cases hs
          unfold nOk at hc
          simp only [Bool.and_eq_true] at hc
          have hS' := hS opn (nAt vs) vs.length n cap d mi (Nat.le_of_ble_eq_true hc.2.1) (Nat.le_of_ble_eq_true hc.2.2)
          rw [nRow hc.1] at hS'
          refine hS'.lift (r := fun k => if k = 0 then b else k + σ.length) hp ⟨fun k o hk => ?_, fun k hk => ?_⟩ rfl
          · have : k = 0 := by have := lt_of_some hk; simpa using this
            subst this
            simp only [List.getElem?_cons_zero, Option.some.injEq] at hk
            exact ⟨vs, opn, rw', hk.symm, hb, nFlo_plain hc.1⟩
          · have hk : 1 ≤ k := hk
            have : ¬ k = 0 := by omega
            simp only [this, if_false]; omega
      · cases hs
    · cases hs
  · unfold sNu at hs
    split at hs
    · cases nl
      · cases hs
      · cases hs; simp
    · split at hs
      · rename_i vs _ _ _
        generalize nOk vs _ = c at hs
        cases c
        · cases hs
        · cases hs; simp
      · cases hs
    · cases hs
theorem sNu_side {z n cap b M : Nat} {mi : Int} {d : Nat} {row : (Nat → Nat) → (Nat → Nat) → Nat → List Value} {h : Nat → (Nat → Nat) → Nat → Int → An} {nl : Bool} {x : Nat → Nat} {rw' : Bool} {opn : Option Nat} {σ : AHeap}
    (hσ : σ[b]? = some (.row (rowOf (fun i => [.float .f64 (x i)]) M) rw' opn)) (hm : n ≤ M) (hM : n ≤ 65536) (he : ∀ y : Nat → Nat, (∀ i, i < n → y i = x i) → h d y n mi = h d x n mi) :
    sNu z row h nl [.int .i64 mi, .float .f64 d, .slice (some ⟨b, 0, some 1⟩) n cap] σ = some (.tuple #[.slice (aAd σ.length (h d x n mi).n z) (h d x n mi).n (h d x n mi).n, .int .i64 (h d x n mi).e], σ ++ [aObj z row (h d x n mi)]) := by
  unfold sNu
  simp only [hσ, nOk_row hm hM, cond_true, he _ (fun i hi => nAt_row (x := x) (M := M) (by omega)), aVal_eq]
/-! ### The answer -/
def nuAn (bad : Bool) (A B : Nat → Nat) (n : Nat) (mi : Int) : An :=
  bif decide (mi ≤ iN n) then anErr 2 else bif decide (mi > 64) then anErr 3 else bif bad then anErr 6 else ⟨mi.toNat, A, B, 0⟩
def nuOwn (d : Nat) (x : Nat → Nat) (n : Nat) (mi : Int) : An :=
  nuAn (nBad (fun _ => d) 1 || nBad x n) (fun q => (conjC (nW d x) n (n + 1) q).1) (fun q => (conjC (nW d x) n (n + 1) q).2) n mi
theorem conj0 (W : Nat → Nat × Nat) (n m : Nat) : nR (conjC W n 0) m = nR (pc W n) m := by
  have : conjC W n 0 = pc W n := by funext q; unfold conjC; rw [if_neg (by omega)]
  rw [this]
theorem pc0_row (W : Nat → Nat × Nat) (m : Nat) : rowOf (updR (fun _ => [.complex .f64 0 0]) 0 [.complex .f64 4607182418800017408 0]) m = rowOf (cRow (pc W 0)) m :=
  upd_row (f := fun _ => (0, 0)) (g := pc W 0) (k := 0) (m := m) (l := [.complex .f64 4607182418800017408 0]) (fun _ => by unfold cRow; simp only [pc]) (fun q hq hne => by rw [pc_hi _ 0 q (by omega)])
theorem null_small (opn : Option Nat) (x : Nat → Nat) (M n cap d : Nat) (mi : Int) (hm : n ≤ M) (hM : n ≤ 65536) : AnCallF 119 [.int .i64 mi, .float .f64 d, .slice (some ⟨0, 0, some 1⟩) n cap] [.row (rowOf (fun i => [.float .f64 (x i)]) M) false opn] 1 xRow (nuOwn d x n mi) := by
  have sd := sFinN_row (b := 1) (m := 1) (cap := 1) (M := 1) (x := fun _ => d) (rw' := true) (opn := none) (σ := [nA opn x M, nD d]) rfl (Nat.le_refl 1) (by decide)
  have sa := sFinN_row (b := 0) (m := n) (cap := cap) (M := M) (x := x) (rw' := false) (opn := opn) (σ := [nA opn x M, nD d]) rfl hm hM
  unfold nuOwn nuAn
  cases h1 : decide (mi ≤ iN n)
  · cases h2 : decide (mi > 64)
    · rw [cond_false, cond_false]
      cases h3 : nBad (fun _ => d) 1
      · rw [h3] at sd
        cases h4 : nBad x n
        · rw [h4] at sa
          have g1 := of_decide_eq_false h1
          have g2 := of_decide_eq_false h2
          rw [iN_eq] at g1
          obtain ⟨m, rfl⟩ : ∃ m : Nat, mi = iN m := ⟨mi.toNat, by rw [iN_eq]; omega⟩
          rw [iN_eq] at g1 g2
          have hm2 : n < m := by omega
          have h64 : m ≤ 64 := by omega
          have hc := nG_p0 opn x M n cap m d hm hm2 h64 (fun q => (pc (nW d x) n q).1) (fun q => (pc (nW d x) n q).2) (fun q => (conjC (nW d x) n (n + 1) q).1) (fun q => (conjC (nW d x) n (n + 1) q).2)
            (fun hst => ((n_conj opn x M n cap m d (nW d x) hm hm2 h64 hst).enter ([true, true, true, false, false, false, true, true, true, false, false, false, false, false, false, false, false, false, false, false, false, false, false, false, false, false, false, false, false, false, false, false, false, false, false, false, false, false, false, false, false, false, false, false, false, false, false, false, false, false, false, false, false, false, false, false, false, false, false, false, false, false, false, false, false, false, false, false, false, false, false, false, false, false, false, false, false, false, false, false, false, false, false, false, false, false, true, true] ++ List.replicate 12 false) (by kernel_rfl)).cast rfl (by rw [conj0]; rfl) (by kernel_rfl) (by kernel_rfl))
            (fun hst => ((n_outer opn x M n cap m d hm hm2 h64 hst).enter ([true, true, true, false, false, false, true, true, true, false, false, false, false, false, false, false, false, false, false, false, false, false, false, false, false, false, false, false, false, false, false, false, false, false, false, false, true, true, true] ++ List.replicate 61 false) (by kernel_rfl)).cast rfl (by
              show [nA opn x M, nD d, AObj.row (rowOf (cRow (pc (nW d x) 0)) m) true none] = _
              rw [← pc0_row]; rfl) (by kernel_rfl) (by kernel_rfl))
            sa sd
          refine .inr ⟨?_, [nA opn x M, nD d, nR (conjC (nW d x) n (n + 1)) m], 2, none, ?_, rfl, .inl rfl⟩
          · show 0 < (iN m).toNat
            rw [iN_eq]; omega
          · have e : (iN m).toNat = m := rfl
            show CallR _ _ _ _ _ (aVal 2 1 ⟨m, _, _, 0⟩) _
            obtain ⟨q, rfl⟩ : ∃ q, m = q + 1 := ⟨m - 1, by omega⟩
            exact hc
        · rw [h4] at sa
          exact .inl ⟨rfl, _, nE7_p0 opn x M n cap mi d h1 h2 sa sd⟩
      · rw [h3] at sd
        exact .inl ⟨rfl, _, nE6_p0 opn x M n cap mi d h1 h2 sd⟩
    · exact .inl ⟨rfl, _, nE3_p0 opn x M n cap mi d h1 h2⟩
  · exact .inl ⟨rfl, _, nE2_p0 opn x M n cap mi d h1⟩
def sNull : HeapFn := sNu 1 xRow nuOwn false
theorem sNull_ok : IsHeap Try.prog false 119 false sNull := sNu_is xRow_plain (fun h => by cases h) (fun opn x M n cap d mi hm hM => null_small opn x M n cap d mi hm hM)
theorem nW_congr {d : Nat} {x y : Nat → Nat} {n : Nat} (h : ∀ i, i < n → y i = x i) : ∀ q, pc (nW d y) n q = pc (nW d x) n q :=
  pc_congr n (fun j hj => by unfold nW; rw [h j hj])
theorem nuOwn_congr {d n : Nat} {mi : Int} {x y : Nat → Nat} (h : ∀ i, i < n → y i = x i) : nuOwn d y n mi = nuOwn d x n mi := by
  unfold nuOwn
  rw [nBad_congr h]
  have : conjC (nW d y) n (n + 1) = conjC (nW d x) n (n + 1) := by
    funext q; unfold conjC; rw [nW_congr h]
  rw [this]
end Go.Lk
end

section
/- The document's Null: outer loop, conjugates, zeros; its contract. -/
namespace Go.Lk
open Go.Proofs
set_option maxRecDepth 100000
set_option linter.unusedVariables false
set_option linter.unusedSimpArgs false
def qOne : AObj := .row [.float .f64 4607182418800017408, .float .f64 0] true none
def rFc1 (n cap m d i : Nat) : List Value := ([.int .i64 (iN m), .float .f64 d, .slice (some ⟨0, 0, some 1⟩) n cap, undef, undef, undef, .slice none 0 0, .int .i64 0, undef, undef, undef, .slice (some ⟨1, 0, some 2⟩) (i + 1) (i + 1), .int .i64 (iN (i))] ++ List.replicate 115 undef)
def rFc2 (n cap m d i : Nat) : List Value := ([.int .i64 (iN m), .float .f64 d, .slice (some ⟨0, 0, some 1⟩) n cap, undef, undef, undef, .slice none 0 0, .int .i64 0, undef, undef, undef, .slice (some ⟨2, 0, some 2⟩) (i + 1) (i + 1), .int .i64 (iN (i))] ++ List.replicate 115 undef)
def rSc (opn : Option Nat) (x : Nat → Nat) (M n cap m d : Nat) : Nat → List Value × AHeap
  | 0 => (rFc1 n cap m d 0, [nA opn x M, qOne])
  | i + 1 => (rFc2 n cap m d (i + 1), [nA opn x M, qOne, qR (pc (rW d x) (i + 1)) (i + 1 + 1) (some 2)])
theorem rn_outer (opn : Option Nat) (x : Nat → Nat) (M n cap m d : Nat) (h0 : 0 < n) (hm : n ≤ M) (hn : n < m) (h64 : m ≤ 64) (hst : Stood false []) :
    Sim dLn4 2 (.loop (loopOf Try.f118 1)) (rFc1 n cap m d 0) [nA opn x M, qOne] (.exit 2) (rFc2 n cap m d n) [nA opn x M, qOne, qR (pc (rW d x) n) (n + 1) (some 2)] := by
  refine Sim.loop (rSc opn x M n cap m d) n (fun k hk => ?_) ?_ rfl
  · cases k with
    | zero =>
      exact (nrc1_p0 opn x M n cap m d hm hn h64 (fun q => (pc (rW d x) 0 q).1) (fun q => (pc (rW d x) 0 q).2) (fun q => (pc (rW d x) 1 q).1) (fun q => (pc (rW d x) 1 q).2) none 0 hk
        (fun hst => ((rn_inner1 opn x M n cap m d hm hn h64 none 0 hk hst).enter ([true, true, true, false, false, false, true, true, false, false, false, true, true, true, true, true] ++ List.replicate 112 false) (by kernel_rfl)).cast rfl (by kernel_rfl) (by kernel_rfl) (by kernel_rfl)) hst).cast (by kernel_rfl) (by kernel_rfl) (by kernel_rfl) (by kernel_rfl)
    | succ i =>
      exact (nrc2_p0 opn x M n cap m d qOne rfl hm hn h64 (fun q => (pc (rW d x) (i + 1) q).1) (fun q => (pc (rW d x) (i + 1) q).2) (fun q => (pc (rW d x) (i + 1 + 1) q).1) (fun q => (pc (rW d x) (i + 1 + 1) q).2) (some 2) (i + 1) hk
        (fun hst => ((rn_inner2 opn x M n cap m d qOne rfl hm hn h64 (some 2) (i + 1) hk hst).enter ([true, true, true, false, false, false, true, true, false, false, false, true, true, true, true, true] ++ List.replicate 112 false) (by kernel_rfl)).cast rfl (by kernel_rfl) (by kernel_rfl) (by kernel_rfl)) hst).cast (by kernel_rfl) (by kernel_rfl) (by kernel_rfl) (by kernel_rfl)
  · obtain ⟨i, rfl⟩ : ∃ i, n = i + 1 := ⟨n - 1, by omega⟩
    exact (nrcE_p0 opn x M (i + 1) cap m d qOne rfl hm hn h64 (fun q => (pc (rW d x) (i + 1) q).1) (fun q => (pc (rW d x) (i + 1) q).2) (some 2) hst).cast (by kernel_rfl) (by kernel_rfl) (by kernel_rfl) (by kernel_rfl)
/-! ### Conjugates, zeros -/
def cjR (f : Nat → Nat × Nat) (q : Nat) : Nat × Nat := ((f q).1, nRc_0 (f q).1 (f q).2)
def rFd (n m : Nat) (acc : Value) (k : Nat) : List Value := ([.int .i64 (iN m), undef, undef, undef, undef, undef, .slice none 0 0, .int .i64 0, undef, undef, undef, .slice (some ⟨2, 0, some 2⟩) (n + 1) (n + 1), undef, undef, undef, undef, undef, acc, .int .i64 (iN (k))] ++ List.replicate 109 undef)
def rSd (x0 xc : AObj) (n m : Nat) (f : Nat → Nat × Nat) (o1 : Option Nat) : Nat → List Value × AHeap
  | 0 => (rFd n m (.slice none 0 0) 0, [x0, xc, qR f (n + 1) o1])
  | k + 1 => (rFd n m (.slice (some ⟨3, 0, some 2⟩) (k + 1) (k + 1)) (k + 1), [x0, xc, qR f (n + 1) o1, qR (cjR f) (k + 1) (some 2)])
theorem rn_conj (x0 xc : AObj) (p0 : plainO x0) (hxc : plainO xc) (n m : Nat) (hn : n < m) (h64 : m ≤ 64) (f : Nat → Nat × Nat) (o1 : Option Nat) (hst : Stood false []) :
    Sim dLn4 3 (.loop (loopOf Try.f118 3)) (rFd n m (.slice none 0 0) 0) [x0, xc, qR f (n + 1) o1] (.exit 7) (rFd n m (.slice (some ⟨3, 0, some 2⟩) (n + 1) (n + 1)) (n + 1)) [x0, xc, qR f (n + 1) o1, qR (cjR f) (n + 1) (some 2)] := by
  refine Sim.loop (rSd x0 xc n m f o1) (n + 1) (fun k hk => ?_) ?_ rfl
  · cases k with
    | zero => exact (nrd0_p0 x0 p0 xc hxc n m hn h64 (fun q => (f q).1) (fun q => (f q).2) o1 hst).cast (by kernel_rfl) (by kernel_rfl) (by kernel_rfl) (by kernel_rfl)
    | succ k => exact (nrd_p0 x0 p0 xc hxc n m hn h64 (fun q => (f q).1) (fun q => (f q).2) o1 (k + 1) (Nat.succ_pos k) hk hst).cast (by kernel_rfl) (by kernel_rfl) (by kernel_rfl) (by kernel_rfl)
  · exact (nrdE_p0 x0 p0 xc hxc n m hn h64 (fun q => (f q).1) (fun q => (f q).2) o1 hst).cast (by kernel_rfl) (by kernel_rfl) (by kernel_rfl) (by kernel_rfl)
def rFe (b m k : Nat) : List Value := ([.int .i64 (iN m), undef, undef, undef, undef, undef, .slice none 0 0, .int .i64 0] ++ List.replicate 9 undef ++ [.slice (some ⟨b, 0, some 2⟩) (k) (k)] ++ List.replicate 110 undef)
def qZ (f : Nat → Nat × Nat) (n k : Nat) : AObj := .row (rowOf (half2 (qRow f) (fun _ => [.float .f64 0, .float .f64 0]) (n + 1)) k) true (some 2)
def rSe (x0 xc xd : AObj) (n m : Nat) (f : Nat → Nat × Nat) : Nat → List Value × AHeap
  | 0 => (rFe 3 m (n + 1), [x0, xc, xd, qZ (cjR f) n (n + 1)])
  | k + 1 => (rFe 4 m (n + 1 + (k + 1)), [x0, xc, xd, .dead, qZ (cjR f) n (n + 1 + (k + 1))])
theorem rn_pad (x0 xc xd : AObj) (p0 : plainO x0) (hxc : plainO xc) (hxd : plainO xd) (n m : Nat) (hn : n + 1 < m) (h64 : m ≤ 64) (f : Nat → Nat × Nat) (hst : Stood false []) :
    Sim dLn4 4 (.loop (loopOf Try.f118 4)) (rFe 3 m (n + 1)) [x0, xc, xd, qZ (cjR f) n (n + 1)] (.exit 9) (rFe 4 m m) [x0, xc, xd, .dead, qZ (cjR f) n m] := by
  refine Sim.loop (rSe x0 xc xd n m f) (m - (n + 1)) (fun k hk => ?_) ?_ rfl
  · cases k with
    | zero => exact (nre0_p0 x0 p0 xc hxc n m (by omega) h64 (fun q => (f q).1) (fun q => (f q).2) xd hxd hn hst).cast (by kernel_rfl) (by kernel_rfl) (by kernel_rfl) (by kernel_rfl)
    | succ k => exact (nre_p0 x0 p0 xc hxc n m (by omega) h64 (fun q => (f q).1) (fun q => (f q).2) xd hxd (n + 1 + (k + 1)) (by omega) (by omega) hst).cast (by kernel_rfl) (by kernel_rfl) (by kernel_rfl) (by kernel_rfl)
  · obtain ⟨k, hk⟩ : ∃ k, m - (n + 1) = k + 1 := ⟨m - (n + 1) - 1, by omega⟩
    rw [hk]
    show Sim dLn4 4 _ (rFe 4 m (n + 1 + (k + 1))) [x0, xc, xd, .dead, qZ (cjR f) n (n + 1 + (k + 1))] _ _ _
    rw [show n + 1 + (k + 1) = m by omega]
    exact (nreE_p0 x0 p0 xc hxc n m (by omega) h64 (fun q => (f q).1) (fun q => (f q).2) xd hxd hst).cast (by kernel_rfl) (by kernel_rfl) (by kernel_rfl) (by kernel_rfl)
theorem rn_pad0 (x0 xc xd : AObj) (p0 : plainO x0) (hxc : plainO xc) (hxd : plainO xd) (n m : Nat) (hn : n + 1 = m) (h64 : m ≤ 64) (f : Nat → Nat × Nat) (hst : Stood false []) :
    Sim dLn4 4 (.loop (loopOf Try.f118 4)) (rFe 3 m (n + 1)) [x0, xc, xd, qZ (cjR f) n (n + 1)] (.exit 9) (rFe 3 m m) [x0, xc, xd, qZ (cjR f) n m] := by
  subst hn
  refine Sim.loop (fun _ => (rFe 3 (n + 1) (n + 1), [x0, xc, xd, qZ (cjR f) n (n + 1)])) 0 (fun k hk => by omega) ?_ rfl
  exact (nreF_p0 x0 p0 xc hxc n (n + 1) (by omega) h64 (fun q => (f q).1) (fun q => (f q).2) xd hxd rfl hst).cast (by kernel_rfl) (by kernel_rfl) (by kernel_rfl) (by kernel_rfl)
end Go.Lk
end

section
/- The document's Null: its contract. -/
namespace Go.Lk
open Go.Proofs
set_option maxRecDepth 100000
set_option linter.unusedVariables false
set_option linter.unusedSimpArgs false
theorem CallR.unDead {P : Program} {ex : Bool} {f : FuncId} {args : List Value} {σ σ' : AHeap} {v : Value} (h : CallR P ex f args (σ ++ [.dead]) v σ') : CallR P ex f args σ v σ' := by
  intro B μ w cargs hr hargs
  have hr2 := hr.dead 1
  simp only [List.replicate_one] at hr2
  refine (h B (μ ++ [none]) w cargs hr2 (hargs.mono (Ext.snoc _ _).sub)).mono ?_
  rintro cv w' ⟨μ', q1, q2, q3, q4⟩
  exact ⟨μ', q1, q2, (Ext.snoc _ _).trans q3, q4⟩
def zf (f : Nat → Nat × Nat) (n q : Nat) : Nat × Nat := bif Nat.blt q (n + 1) then f q else (0, 0)
theorem half_zf (f : Nat → Nat × Nat) (n : Nat) : half2 (qRow f) (fun _ => [.float .f64 0, .float .f64 0]) (n + 1) = qRow (zf f n) := by
  funext q
  unfold half2 qRow zf
  cases Nat.blt q (n + 1) <;> rfl
def nuRef (d : Nat) (x : Nat → Nat) (n : Nat) (mi : Int) : An :=
  nuAn (!okN d x n) (fun q => (zf (cjR (pc (rW d x) n)) n q).1) (fun q => (zf (cjR (pc (rW d x) n)) n q).2) n mi
theorem qZ_eq (f : Nat → Nat × Nat) (n m : Nat) : qZ f n m = .row (pRow (fun q => (zf f n q).1) (fun q => (zf f n q).2) m) true (some 2) := by
  unfold qZ; rw [half_zf]; rfl
theorem qZ_full (f : Nat → Nat × Nat) (n : Nat) : qZ f n (n + 1) = qR f (n + 1) (some 2) := by
  unfold qZ qR; rw [half2_full]
def fOne : Nat → Nat × Nat := fun _ => (4607182418800017408, 0)
theorem zf_one (W : Nat → Nat × Nat) : zf (cjR (pc W 0)) 0 = zf (cjR fOne) 0 := by
  funext q
  unfold zf
  cases q with
  | zero => unfold cjR fOne; simp only [pc]
  | succ q => rfl
theorem nu_in {args : List Value} {σ0 σ' : AHeap} {f : Nat → Nat × Nat} {n m k : Nat} (h0 : 0 < m) (h : CallR Try.prog false 118 args σ0 (.tuple #[.slice (some ⟨k, 0, some 2⟩) m m, .int .i64 0]) σ') (hk : σ'[k]? = some (qZ f n m)) :
    AnCallF 118 args σ0 2 pRow ⟨m, fun q => (zf f n q).1, fun q => (zf f n q).2, 0⟩ := by
  rw [qZ_eq] at hk
  refine .inr ⟨h0, σ', k, some 2, ?_, hk, .inr rfl⟩
  obtain ⟨q, rfl⟩ : ∃ q, m = q + 1 := ⟨m - 1, by omega⟩
  exact h
theorem int_m {mi : Int} {n : Nat} (h1 : decide (mi ≤ iN n) = false) (h2 : decide (mi > 64) = false) : ∃ m : Nat, mi = iN m ∧ n < m ∧ m ≤ 64 := by
  have g1 := of_decide_eq_false h1
  have g2 := of_decide_eq_false h2
  rw [iN_eq] at g1
  refine ⟨mi.toNat, by rw [iN_eq]; omega, by omega, by omega⟩
theorem ref_small (opn : Option Nat) (x : Nat → Nat) (M n cap d : Nat) (mi : Int) (hm : n ≤ M) : AnCallF 118 [.int .i64 mi, .float .f64 d, .slice (some ⟨0, 0, some 1⟩) n cap] [.row (rowOf (fun i => [.float .f64 (x i)]) M) false opn] 2 pRow (nuRef d x n mi) := by
  unfold nuRef nuAn
  cases h1 : decide (mi ≤ iN n)
  · cases h2 : decide (mi > 64)
    · rw [cond_false, cond_false]
      obtain ⟨m, rfl, hn, h64⟩ := int_m h1 h2
      have ck : ∀ hst, Sim dLn4 1 (.loop (loopOf Try.f118 0)) (rFa n cap m d (okN d x 0) 0) [nA opn x M] (.exit 0) (rFa n cap m d (okN d x n) n) [nA opn x M] := fun hst => rn_check opn x M n cap m d hm hn h64 hst
      cases h3 : okN d x n
      · rw [h3] at ck
        exact .inl ⟨rfl, _, nrGF_p0 opn x M n cap m d hm hn h64 (fun hst => ((ck hst.none).enter ([true, true, true, false, false, false, true, true, true, true] ++ List.replicate 118 false) (by kernel_rfl)).cast rfl rfl (by kernel_rfl) (by kernel_rfl))⟩
      · rw [h3] at ck
        show AnCallF 118 _ _ 2 pRow ⟨(iN m).toNat, _, _, 0⟩
        have em : (iN m).toNat = m := rfl
        rw [em]
        rcases Nat.eq_zero_or_pos n with rfl | h0
        · have hd : cRFin_0 d = true := h3
          rw [zf_one]
          have cj := fun hst => rn_conj (nA opn x M) .dead (rowOf_all (fun _ => rfl) _) trivial 0 m hn h64 fOne none hst
          rcases Nat.lt_or_ge 1 m with g | g
          · exact nu_in (f := cjR fOne) (n := 0) (k := 4) hn ((nrWp_p0 opn x M cap m d hn h64 hd
              (fun hst => ((rn_pad (nA opn x M) .dead (qR fOne 1 none) (rowOf_all (fun _ => rfl) _) trivial (rowOf_all (fun _ => rfl) _) 0 m g h64 fOne hst.none).enter ([true, false, false, false, false, false, true, true, false, false, false, false, false, false, false, false, false, true] ++ List.replicate 110 false) (by kernel_rfl)).cast rfl (by kernel_rfl) (by kernel_rfl) (by kernel_rfl))
              (fun hst => ((cj hst.none).enter ([true, false, false, false, false, false, true, true, false, false, false, true, false, false, false, false, false, true, true] ++ List.replicate 109 false) (by kernel_rfl)).cast rfl (by kernel_rfl) (by kernel_rfl) (by kernel_rfl))).unDead (σ := [nA opn x M])) (by kernel_rfl)
          · exact nu_in (f := cjR fOne) (n := 0) (k := 3) hn ((nrW_p0 opn x M cap m d hn h64 hd
              (fun hst => ((rn_pad0 (nA opn x M) .dead (qR fOne 1 none) (rowOf_all (fun _ => rfl) _) trivial (rowOf_all (fun _ => rfl) _) 0 m (by omega) h64 fOne hst.none).enter ([true, false, false, false, false, false, true, true, false, false, false, false, false, false, false, false, false, true] ++ List.replicate 110 false) (by kernel_rfl)).cast rfl (by kernel_rfl) (by kernel_rfl) (by kernel_rfl))
              (fun hst => ((cj hst.none).enter ([true, false, false, false, false, false, true, true, false, false, false, true, false, false, false, false, false, true, true] ++ List.replicate 109 false) (by kernel_rfl)).cast rfl (by kernel_rfl) (by kernel_rfl) (by kernel_rfl))).unDead (σ := [nA opn x M])) (by kernel_rfl)
        · have ou := fun hst => rn_outer opn x M n cap m d h0 hm hn h64 hst
          have cj := fun hst => rn_conj (nA opn x M) qOne (rowOf_all (fun _ => rfl) _) rfl n m hn h64 (pc (rW d x) n) (some 2) hst
          rcases Nat.lt_or_ge (n + 1) m with g | g
          · exact nu_in (f := cjR (pc (rW d x) n)) (n := n) (k := 4) (by omega) (nrGp_p0 opn x M n cap m d hm hn h64 (fun q => (pc (rW d x) n q).1) (fun q => (pc (rW d x) n q).2) (some 2)
              (fun hst => ((rn_pad (nA opn x M) qOne (qR (pc (rW d x) n) (n + 1) (some 2)) (rowOf_all (fun _ => rfl) _) rfl (rowOf_all (fun _ => rfl) _) n m g h64 (pc (rW d x) n) hst.none).enter ([true, false, false, false, false, false, true, true, false, false, false, false, false, false, false, false, false, true] ++ List.replicate 110 false) (by kernel_rfl)).cast rfl (by rw [qZ_full]; rfl) (by kernel_rfl) (by kernel_rfl))
              (fun hst => ((cj hst.none).enter ([true, false, false, false, false, false, true, true, false, false, false, true, false, false, false, false, false, true, true] ++ List.replicate 109 false) (by kernel_rfl)).cast rfl (by kernel_rfl) (by kernel_rfl) (by kernel_rfl))
              (fun hst => ((ou hst.none).enter ([true, true, true, false, false, false, true, true, false, false, false, true, true] ++ List.replicate 115 false) (by kernel_rfl)).cast rfl (by kernel_rfl) (by kernel_rfl) (by kernel_rfl))
              (fun hst => ((ck hst.none).enter ([true, true, true, false, false, false, true, true, true, true] ++ List.replicate 118 false) (by kernel_rfl)).cast rfl rfl (by kernel_rfl) (by kernel_rfl))) rfl
          · exact nu_in (f := cjR (pc (rW d x) n)) (n := n) (k := 3) (by omega) (nrG_p0 opn x M n cap m d hm hn h64 (fun q => (pc (rW d x) n q).1) (fun q => (pc (rW d x) n q).2) (some 2)
              (fun hst => ((rn_pad0 (nA opn x M) qOne (qR (pc (rW d x) n) (n + 1) (some 2)) (rowOf_all (fun _ => rfl) _) rfl (rowOf_all (fun _ => rfl) _) n m (by omega) h64 (pc (rW d x) n) hst.none).enter ([true, false, false, false, false, false, true, true, false, false, false, false, false, false, false, false, false, true] ++ List.replicate 110 false) (by kernel_rfl)).cast rfl (by rw [qZ_full]; rfl) (by kernel_rfl) (by kernel_rfl))
              (fun hst => ((cj hst.none).enter ([true, false, false, false, false, false, true, true, false, false, false, true, false, false, false, false, false, true, true] ++ List.replicate 109 false) (by kernel_rfl)).cast rfl (by kernel_rfl) (by kernel_rfl) (by kernel_rfl))
              (fun hst => ((ou hst.none).enter ([true, true, true, false, false, false, true, true, false, false, false, true, true] ++ List.replicate 115 false) (by kernel_rfl)).cast rfl (by kernel_rfl) (by kernel_rfl) (by kernel_rfl))
              (fun hst => ((ck hst.none).enter ([true, true, true, false, false, false, true, true, true, true] ++ List.replicate 118 false) (by kernel_rfl)).cast rfl rfl (by kernel_rfl) (by kernel_rfl))) rfl
    · exact .inl ⟨rfl, _, nrE3_p0 opn x M n cap mi d h1 h2⟩
  · exact .inl ⟨rfl, _, nrE2_p0 opn x M n cap mi d h1⟩
theorem ref_nil (d : Nat) (mi : Int) : AnCallF 118 [.int .i64 mi, .float .f64 d, .slice none 0 0] [] 2 pRow (nuRef d (fun _ => 0) 0 mi) := by
  unfold nuRef nuAn
  have un : ∀ {v σ'}, CallR Try.prog false 118 [.int .i64 mi, .float .f64 d, .slice none 0 0] [.dead, .dead] v σ' → CallR Try.prog false 118 [.int .i64 mi, .float .f64 d, .slice none 0 0] [] v σ' :=
    fun h => CallR.unDead (σ := []) (CallR.unDead (σ := [.dead]) h)
  cases h1 : decide (mi ≤ iN 0)
  · cases h2 : decide (mi > 64)
    · rw [cond_false, cond_false]
      obtain ⟨m, rfl, hn, h64⟩ := int_m h1 h2
      cases h3 : okN d (fun _ => 0) 0
      · exact .inl ⟨rfl, _, un (nrZF_p0 m d hn h64 h3)⟩
      · show AnCallF 118 _ _ 2 pRow ⟨(iN m).toNat, _, _, 0⟩
        have em : (iN m).toNat = m := rfl
        rw [em, zf_one]
        have cj := fun hst => rn_conj .dead .dead trivial trivial 0 m hn h64 fOne none hst
        rcases Nat.lt_or_ge 1 m with g | g
        · exact nu_in (f := cjR fOne) (n := 0) (k := 4) hn (un (nrZp_p0 m d hn h64 h3
            (fun hst => ((rn_pad .dead .dead (qR fOne 1 none) trivial trivial (rowOf_all (fun _ => rfl) _) 0 m g h64 fOne hst.none).enter ([true, false, false, false, false, false, true, true, false, false, false, false, false, false, false, false, false, true] ++ List.replicate 110 false) (by kernel_rfl)).cast rfl (by kernel_rfl) (by kernel_rfl) (by kernel_rfl))
            (fun hst => ((cj hst.none).enter ([true, false, false, false, false, false, true, true, false, false, false, true, false, false, false, false, false, true, true] ++ List.replicate 109 false) (by kernel_rfl)).cast rfl (by kernel_rfl) (by kernel_rfl) (by kernel_rfl)))) (by kernel_rfl)
        · exact nu_in (f := cjR fOne) (n := 0) (k := 3) hn (un (nrZ_p0 m d hn h64 h3
            (fun hst => ((rn_pad0 .dead .dead (qR fOne 1 none) trivial trivial (rowOf_all (fun _ => rfl) _) 0 m (by omega) h64 fOne hst.none).enter ([true, false, false, false, false, false, true, true, false, false, false, false, false, false, false, false, false, true] ++ List.replicate 110 false) (by kernel_rfl)).cast rfl (by kernel_rfl) (by kernel_rfl) (by kernel_rfl))
            (fun hst => ((cj hst.none).enter ([true, false, false, false, false, false, true, true, false, false, false, true, false, false, false, false, false, true, true] ++ List.replicate 109 false) (by kernel_rfl)).cast rfl (by kernel_rfl) (by kernel_rfl) (by kernel_rfl)))) (by kernel_rfl)
    · exact .inl ⟨rfl, _, un (nrY3_p0 mi d h1 h2)⟩
  · exact .inl ⟨rfl, _, un (nrY2_p0 mi d h1)⟩
def sRNull : HeapFn := sNu 2 pRow nuRef true
theorem sRNull_ok : IsHeap Try.prog false 118 false sRNull := sNu_is pRow_plain (fun _ d mi => ref_nil d mi) (fun opn x M n cap d mi hm hM => ref_small opn x M n cap d mi hm)
theorem rW_congr {d : Nat} {x y : Nat → Nat} {n : Nat} (h : ∀ i, i < n → y i = x i) : ∀ q, pc (rW d y) n q = pc (rW d x) n q :=
  pc_congr n (fun j hj => by unfold rW; rw [h j hj])
theorem okN_congr {d : Nat} {x y : Nat → Nat} : ∀ {n : Nat}, (∀ i, i < n → y i = x i) → okN d y n = okN d x n
  | 0, _ => rfl
  | n + 1, h => by unfold okN; rw [okN_congr (fun i hi => h i (by omega)), h n (by omega)]
theorem nuRef_congr {d n : Nat} {mi : Int} {x y : Nat → Nat} (h : ∀ i, i < n → y i = x i) : nuRef d y n mi = nuRef d x n mi := by
  unfold nuRef
  rw [okN_congr h]
  have : zf (cjR (pc (rW d y) n)) n = zf (cjR (pc (rW d x) n)) n := by
    funext q; unfold zf cjR; rw [rW_congr h]
  rw [this]
end Go.Lk
end

section
/- SameFloats: rounds and paths. -/
namespace Go.Lk
open Go.Proofs
set_option maxRecDepth 100000
set_option maxHeartbeats 0
set_option linter.unusedVariables false
set_option linter.unusedSimpArgs false
theorem sfR_okX : codeOkX (dLn4) [] (loopOf Try.f120 0) = true := by kernel_rfl
theorem sfR_p0 (o1 : Option Nat) (o2 : Option Nat) (x : Nat → Nat) (y : Nat → Nat) (M : Nat) (N : Nat) (n : Nat) (c1 : Nat) (c2 : Nat) (hm : n ≤ M) (hm2 : n ≤ N) (hn : n ≤ 65536) (k : Nat) (hk : k < n) (hs : gSameF_0 (x k) (y k) = true) (hst : Stood false ([])) : Sim (dLn4) 2 (loopOf Try.f120 0) (([.slice (some ⟨0, 0, some 1⟩) n c1, .slice (some ⟨1, 0, some 1⟩) n c2, undef, undef, .bool false, .int .i64 (iN k)] ++ List.replicate 23 undef)) ([.row (rowOf (fun i => [.float .f64 (x i)]) M) false o1, .row (rowOf (fun i => [.float .f64 (y i)]) N) false o2]) .normal ([Value.slice (some ⟨0, 0, some 1⟩) n c1, Value.slice (some ⟨1, 0, some 1⟩) n c2, undef, undef, Value.bool false, Value.int .i64 (iN (k + 1)), undef, undef, undef, undef, undef, undef, undef, undef, undef, undef, undef, undef, undef, undef, undef, undef, undef, undef, undef, undef, undef, undef, undef]) ([AObj.row (rowOf (fun i => [Value.float .f64 (x i)]) M) false o1, AObj.row (rowOf (fun i => [Value.float .f64 (y i)]) N) false o2]) := Sim.of_roundQ (C := dLn4) dLn4_ok (X := []) (n := 3) (orc := [(8, Item.br true), (14, Item.res (Value.pointer (some { block := 0, off := 0 + k * 1 }))), (16, Item.res (Value.float .f64 (x k))), (22, Item.res (Value.pointer (some { block := 1, off := 0 + k * 1 }))), (24, Item.res (Value.float .f64 (y k))), (33, Item.br false), (37, Item.res (Value.int .i64 (iN (k + 1))))]) (ks := [0, 1]) (mask := [true, true, false, false, true, true, false, false, false, false, false, false, false, false, false, false, false, false, false, false, false, false, false, false, false, false, false, false, false]) (ps := [(some (decide (iN k < iN n)) = some true), (ixF (Value.pointer (some { block := 0, off := 0 + k * 1 })) ([AObj.row (rowOf (fun i => [Value.float .f64 (x i)]) M) false o1, AObj.row (rowOf (fun i => [Value.float .f64 (y i)]) N) false o2]) (iN k) (n) = some (Value.pointer (some { block := 0, off := 0 + k * 1 }), [AObj.row (rowOf (fun i => [Value.float .f64 (x i)]) M) false o1, AObj.row (rowOf (fun i => [Value.float .f64 (y i)]) N) false o2])), (ldF (aLoad Try.prog ([AObj.row (rowOf (fun i => [Value.float .f64 (x i)]) M) false o1, AObj.row (rowOf (fun i => [Value.float .f64 (y i)]) N) false o2]) 22 (.pointer (some ⟨0, 0 + k * 1, none⟩))) ([AObj.row (rowOf (fun i => [Value.float .f64 (x i)]) M) false o1, AObj.row (rowOf (fun i => [Value.float .f64 (y i)]) N) false o2]) = some (Value.float .f64 (x k), [AObj.row (rowOf (fun i => [Value.float .f64 (x i)]) M) false o1, AObj.row (rowOf (fun i => [Value.float .f64 (y i)]) N) false o2])), (ixF (Value.pointer (some { block := 1, off := 0 + k * 1 })) ([AObj.row (rowOf (fun i => [Value.float .f64 (x i)]) M) false o1, AObj.row (rowOf (fun i => [Value.float .f64 (y i)]) N) false o2]) (iN k) (n) = some (Value.pointer (some { block := 1, off := 0 + k * 1 }), [AObj.row (rowOf (fun i => [Value.float .f64 (x i)]) M) false o1, AObj.row (rowOf (fun i => [Value.float .f64 (y i)]) N) false o2])), (ldF (aLoad Try.prog ([AObj.row (rowOf (fun i => [Value.float .f64 (x i)]) M) false o1, AObj.row (rowOf (fun i => [Value.float .f64 (y i)]) N) false o2]) 22 (.pointer (some ⟨1, 0 + k * 1, none⟩))) ([AObj.row (rowOf (fun i => [Value.float .f64 (x i)]) M) false o1, AObj.row (rowOf (fun i => [Value.float .f64 (y i)]) N) false o2]) = some (Value.float .f64 (y k), [AObj.row (rowOf (fun i => [Value.float .f64 (x i)]) M) false o1, AObj.row (rowOf (fun i => [Value.float .f64 (y i)]) N) false o2])), (bP (!gSameF_0 (x k) (y k)) false), (wF IntKind.i64 (iN k + 1) ([AObj.row (rowOf (fun i => [Value.float .f64 (x i)]) M) false o1, AObj.row (rowOf (fun i => [Value.float .f64 (y i)]) N) false o2]) = some (.int IntKind.i64 (iN (k + 1)), [AObj.row (rowOf (fun i => [Value.float .f64 (x i)]) M) false o1, AObj.row (rowOf (fun i => [Value.float .f64 (y i)]) N) false o2]))]) (L := 2) 2 sfR_okX (by kernel_rfl) ⟨bP_of (fun x => x) (show (decide (iN k < iN n)) = true from decide_eq_true (by (try simp only [decide_eq_true_eq, decide_eq_false_iff_not] at *); (try simp only [iN_eq, Int.ofNat_eq_natCast] at *); try omega)), ⟨ixF_ok _ _ (by (try simp only [decide_eq_true_eq, decide_eq_false_iff_not] at *); (try simp only [iN_eq, Int.ofNat_eq_natCast] at *); try omega), ⟨ldF_ok (load_one (k := k) (n := M) (g := fun i => ((fun i => [Value.float .f64 (x i)]) i).getD 0 undef) rfl (by kernel_rfl) (by omega) (by (try simp only [decide_eq_true_eq, decide_eq_false_iff_not] at *); (try simp only [iN_eq, Int.ofNat_eq_natCast] at *); try omega)), ⟨ixF_ok _ _ (by (try simp only [decide_eq_true_eq, decide_eq_false_iff_not] at *); (try simp only [iN_eq, Int.ofNat_eq_natCast] at *); try omega), ⟨ldF_ok (load_one (k := k) (n := N) (g := fun i => ((fun i => [Value.float .f64 (y i)]) i).getD 0 undef) rfl (by kernel_rfl) (by omega) (by (try simp only [decide_eq_true_eq, decide_eq_false_iff_not] at *); (try simp only [iN_eq, Int.ofNat_eq_natCast] at *); try omega)), ⟨bP_of (fun x => !x) hs, ⟨wF_ok _ (by (try simp only [decide_eq_true_eq, decide_eq_false_iff_not] at *); (try simp only [iN_eq, Int.ofNat_eq_natCast] at *); try omega) (by (try simp only [decide_eq_true_eq, decide_eq_false_iff_not] at *); (try simp only [iN_eq, Int.ofNat_eq_natCast] at *); try omega), trivial⟩⟩⟩⟩⟩⟩⟩ hst (by kernel_rfl) (by kernel_rfl) (by kernel_rfl) (by decide) (by kernel_rfl) ⟨rowOf_all (fun _ => rfl) _, ⟨rowOf_all (fun _ => rfl) _, trivial⟩⟩
theorem sfE_okX : codeOkX (dLn4) [] (loopOf Try.f120 0) = true := by kernel_rfl
theorem sfE_p0 (o1 : Option Nat) (o2 : Option Nat) (x : Nat → Nat) (y : Nat → Nat) (M : Nat) (N : Nat) (n : Nat) (c1 : Nat) (c2 : Nat) (hm : n ≤ M) (hm2 : n ≤ N) (hn : n ≤ 65536) (hst : Stood false ([])) : Sim (dLn4) 2 (loopOf Try.f120 0) (([.slice (some ⟨0, 0, some 1⟩) n c1, .slice (some ⟨1, 0, some 1⟩) n c2, undef, undef, .bool false, .int .i64 (iN n)] ++ List.replicate 23 undef)) ([.row (rowOf (fun i => [.float .f64 (x i)]) M) false o1, .row (rowOf (fun i => [.float .f64 (y i)]) N) false o2]) (.exit 0) ([Value.slice (some ⟨0, 0, some 1⟩) n c1, Value.slice (some ⟨1, 0, some 1⟩) n c2, undef, undef, Value.bool false, Value.int .i64 (iN n), undef, undef, undef, undef, undef, undef, undef, undef, undef, undef, undef, undef, undef, undef, undef, undef, undef, undef, undef, undef, undef, undef, undef]) ([AObj.row (rowOf (fun i => [Value.float .f64 (x i)]) M) false o1, AObj.row (rowOf (fun i => [Value.float .f64 (y i)]) N) false o2]) := Sim.of_roundQ (C := dLn4) dLn4_ok (X := []) (n := 3) (orc := [(8, Item.br false)]) (ks := [0, 1]) (mask := [true, true, false, false, true, true, false, false, false, false, false, false, false, false, false, false, false, false, false, false, false, false, false, false, false, false, false, false, false]) (ps := [(some (decide (iN n < iN n)) = some false)]) (L := 2) 2 sfE_okX (by kernel_rfl) ⟨bP_of (fun x => x) (show (decide (iN n < iN n)) = false from decide_eq_false (by (try simp only [decide_eq_true_eq, decide_eq_false_iff_not] at *); (try simp only [iN_eq, Int.ofNat_eq_natCast] at *); try omega)), trivial⟩ hst (by kernel_rfl) (by kernel_rfl) (by kernel_rfl) (by decide) (by kernel_rfl) ⟨rowOf_all (fun _ => rfl) _, ⟨rowOf_all (fun _ => rfl) _, trivial⟩⟩
theorem sfG_fok : fnOkX (dLn4) [] Try.f120 = true := by kernel_rfl
theorem sfG_p0 (o1 : Option Nat) (o2 : Option Nat) (x : Nat → Nat) (y : Nat → Nat) (M : Nat) (N : Nat) (n : Nat) (c1 : Nat) (c2 : Nat) (hm : n ≤ M) (hm2 : n ≤ N) (hn : n ≤ 65536) (h0 : (iN n != iN n) = true) : CallR Try.prog false 120 ([Value.slice (some ⟨0, 0, some 1⟩) n c1, Value.slice (some ⟨1, 0, some 1⟩) n c2]) ([AObj.row (rowOf (fun i => [Value.float .f64 (x i)]) M) false o1, AObj.row (rowOf (fun i => [Value.float .f64 (y i)]) N) false o2]) (Value.bool false) ([AObj.row (rowOf (fun i => [Value.float .f64 (x i)]) M) false o1, AObj.row (rowOf (fun i => [Value.float .f64 (y i)]) N) false o2]) := CallR.of_DOXs (C := dLn4) dLn4_ok (X := []) Try.func120 sfG_fok (n := 3) (orc := [(12, Item.br true)]) (ps := [(bP (iN n != iN n) true)]) (by kernel_rfl) (fun hst => ⟨bP_of (fun x => x) h0, trivial⟩)
theorem sfG_p1 (o1 : Option Nat) (o2 : Option Nat) (x : Nat → Nat) (y : Nat → Nat) (M : Nat) (N : Nat) (n : Nat) (c1 : Nat) (c2 : Nat) (hm : n ≤ M) (hm2 : n ≤ N) (hn : n ≤ 65536) (h0 : (iN n != iN n) = false) (l0 : Stood false ([AObj.row (rowOf (fun i => [Value.float .f64 (x i)]) M) false o1, AObj.row (rowOf (fun i => [Value.float .f64 (y i)]) N) false o2]) → Sim (dLn4) 2 (.loop (loopOf Try.f120 0)) ([Value.slice (some ⟨0, 0, some 1⟩) n c1, Value.slice (some ⟨1, 0, some 1⟩) n c2, undef, undef, Value.bool false, Value.int .i64 (Int.ofNat 0), undef, Value.slice (some ⟨0, 0, some 1⟩) n c1, Value.int .i64 (iN n), Value.slice (some ⟨1, 0, some 1⟩) n c2, Value.int .i64 (iN n), Value.bool (iN n != iN n), undef, undef, undef, undef, undef, undef, undef, undef, undef, undef, undef, undef, undef, undef, undef, undef, undef]) ([AObj.row (rowOf (fun i => [Value.float .f64 (x i)]) M) false o1, AObj.row (rowOf (fun i => [Value.float .f64 (y i)]) N) false o2]) (Exit.exit 0) ([Value.slice (some ⟨0, 0, some 1⟩) n c1, Value.slice (some ⟨1, 0, some 1⟩) n c2, undef, undef, Value.bool false, Value.int .i64 (iN n), undef, undef, undef, undef, undef, undef, undef, undef, undef, undef, undef, undef, undef, undef, undef, undef, undef, undef, undef, undef, undef, undef, undef]) ([AObj.row (rowOf (fun i => [Value.float .f64 (x i)]) M) false o1, AObj.row (rowOf (fun i => [Value.float .f64 (y i)]) N) false o2])) : CallR Try.prog false 120 ([Value.slice (some ⟨0, 0, some 1⟩) n c1, Value.slice (some ⟨1, 0, some 1⟩) n c2]) ([AObj.row (rowOf (fun i => [Value.float .f64 (x i)]) M) false o1, AObj.row (rowOf (fun i => [Value.float .f64 (y i)]) N) false o2]) (Value.bool true) ([AObj.row (rowOf (fun i => [Value.float .f64 (x i)]) M) false o1, AObj.row (rowOf (fun i => [Value.float .f64 (y i)]) N) false o2]) := CallR.of_DOXs (C := dLn4) dLn4_ok (X := []) Try.func120 sfG_fok (n := 3) (orc := [(12, Item.br false), (15, Item.loop (Exit.exit 0) ([Value.slice (some ⟨0, 0, some 1⟩) n c1, Value.slice (some ⟨1, 0, some 1⟩) n c2, undef, undef, Value.bool false, Value.int .i64 (iN n)] ++ List.replicate 23 undef) [AObj.row (rowOf (fun i => [Value.float .f64 (x i)]) M) false o1, AObj.row (rowOf (fun i => [Value.float .f64 (y i)]) N) false o2])]) (ps := [(bP (iN n != iN n) false), (Sim (dLn4) 2 (.loop (loopOf Try.f120 0)) ([Value.slice (some ⟨0, 0, some 1⟩) n c1, Value.slice (some ⟨1, 0, some 1⟩) n c2, undef, undef, Value.bool false, Value.int .i64 (Int.ofNat 0), undef, Value.slice (some ⟨0, 0, some 1⟩) n c1, Value.int .i64 (iN n), Value.slice (some ⟨1, 0, some 1⟩) n c2, Value.int .i64 (iN n), Value.bool (iN n != iN n), undef, undef, undef, undef, undef, undef, undef, undef, undef, undef, undef, undef, undef, undef, undef, undef, undef]) ([AObj.row (rowOf (fun i => [Value.float .f64 (x i)]) M) false o1, AObj.row (rowOf (fun i => [Value.float .f64 (y i)]) N) false o2]) (Exit.exit 0) ([Value.slice (some ⟨0, 0, some 1⟩) n c1, Value.slice (some ⟨1, 0, some 1⟩) n c2, undef, undef, Value.bool false, Value.int .i64 (iN n), undef, undef, undef, undef, undef, undef, undef, undef, undef, undef, undef, undef, undef, undef, undef, undef, undef, undef, undef, undef, undef, undef, undef]) ([AObj.row (rowOf (fun i => [Value.float .f64 (x i)]) M) false o1, AObj.row (rowOf (fun i => [Value.float .f64 (y i)]) N) false o2])), (List.length (α := AObj) ([AObj.row (rowOf (fun i => [Value.float .f64 (x i)]) M) false o1, AObj.row (rowOf (fun i => [Value.float .f64 (y i)]) N) false o2]) ≤ List.length ([AObj.row (rowOf (fun i => [Value.float .f64 (x i)]) M) false o1, AObj.row (rowOf (fun i => [Value.float .f64 (y i)]) N) false o2])), (Lk.Exit.isG (Exit.exit 0) = false)]) (by kernel_rfl) (fun hst => ⟨bP_of (fun x => x) h0, ⟨l0 hst, Nat.le_of_ble_eq_true (by kernel_rfl), rfl, trivial⟩⟩)
theorem sfN_fok : fnOkX (dLn4) [] Try.f120 = true := by kernel_rfl
theorem sfN_p0 (o1 : Option Nat) (x : Nat → Nat) (M : Nat) (c1 : Nat) : CallR Try.prog false 120 ([Value.slice (some ⟨0, 0, some 1⟩) 0 c1, Value.slice none 0 0]) ([AObj.row (rowOf (fun i => [Value.float .f64 (x i)]) M) false o1]) (Value.bool true) ([AObj.row (rowOf (fun i => [Value.float .f64 (x i)]) M) false o1]) := CallR.of_DOXs (C := dLn4) dLn4_ok (X := []) Try.func120 sfN_fok (n := 3) (orc := []) (ps := []) (by kernel_rfl) (fun hst => trivial)
end Go.Lk
end

section
/- SameFloats: its contract. -/
namespace Go.Lk
open Go.Proofs
set_option maxRecDepth 100000
set_option linter.unusedVariables false
set_option linter.unusedSimpArgs false
theorem gSameF_refl (a : Nat) : gSameF_0 a a = true := by
  unfold gSameF_0
  cases feq a a
  · rfl
  · simp
def sfF (n c1 c2 k : Nat) : List Value := ([.slice (some ⟨0, 0, some 1⟩) n c1, .slice (some ⟨1, 0, some 1⟩) n c2, undef, undef, .bool false, .int .i64 (iN k)] ++ List.replicate 23 undef)
def sfA (o : Option Nat) (x : Nat → Nat) (M : Nat) : AObj := .row (rowOf (fun i => [.float .f64 (x i)]) M) false o
theorem sf_loop (o1 o2 : Option Nat) (x y : Nat → Nat) (M N n c1 c2 : Nat) (hm : n ≤ M) (hm2 : n ≤ N) (hn : n ≤ 65536) (hxy : ∀ i, i < n → y i = x i) (hst : Stood false []) :
    Sim dLn4 2 (.loop (loopOf Try.f120 0)) (sfF n c1 c2 0) [sfA o1 x M, sfA o2 y N] (.exit 0) (sfF n c1 c2 n) [sfA o1 x M, sfA o2 y N] := by
  refine Sim.loop (fun k => (sfF n c1 c2 k, [sfA o1 x M, sfA o2 y N])) n (fun k hk => ?_) ?_ rfl
  · exact (sfR_p0 o1 o2 x y M N n c1 c2 hm hm2 hn k hk (by rw [hxy k hk]; exact gSameF_refl _) hst).cast (by kernel_rfl) (by kernel_rfl) (by kernel_rfl) (by kernel_rfl)
  · exact (sfE_p0 o1 o2 x y M N n c1 c2 hm hm2 hn hst).cast (by kernel_rfl) (by kernel_rfl) (by kernel_rfl) (by kernel_rfl)
def SmF (args : List Value) (σ : AHeap) : Prop :=
  ∃ (b1 c1 M : Nat) (r1 : Bool) (o1 : Option Nat) (x : Nat → Nat), σ[b1]? = some (.row (rowOf (fun i => [.float .f64 (x i)]) M) r1 o1) ∧
    ((∃ (b2 c2 N n : Nat) (r2 : Bool) (o2 : Option Nat) (y : Nat → Nat), σ[b2]? = some (.row (rowOf (fun i => [.float .f64 (y i)]) N) r2 o2) ∧ (∀ i, i < n → y i = x i) ∧ n ≤ M ∧ n ≤ N ∧ n ≤ 65536 ∧ args = [.slice (some ⟨b1, 0, some 1⟩) n c1, .slice (some ⟨b2, 0, some 1⟩) n c2]) ∨
      args = [.slice (some ⟨b1, 0, some 1⟩) 0 c1, .slice none 0 0])
open Classical in
noncomputable def sSamF : HeapFn := fun args σ => if SmF args σ then some (.bool true, σ) else none
theorem sSamF_ok : IsHeap Try.prog false 120 true sSamF := by
  have quiet : ∀ (args : List Value) (σ : AHeap) (v : Value) (σ' : AHeap), sSamF args σ = some (v, σ') → σ' = σ := by
    intro args σ v σ' hs
    unfold sSamF at hs
    split at hs
    · cases hs; rfl
    · cases hs
  refine ⟨fun args σ v σ' hs => ?_, fun _ args σ v σ' hs => quiet args σ v σ' hs, fun args σ v σ' hs => by rw [quiet args σ v σ' hs]; exact Nat.le_refl _⟩
  unfold sSamF at hs
  split at hs
  · rename_i hx
    cases hs
    obtain ⟨b1, c1, M, r1, o1, x, g1, ⟨b2, c2, N, n, r2, o2, y, g2, hxy, h1, h2, h3, rfl⟩ | rfl⟩ := hx
    · have hc := sfG_p1 o1 o2 x y M N n c1 c2 h1 h2 h3 (bne_self_eq_false _) (fun hst => ((sf_loop o1 o2 x y M N n c1 c2 h1 h2 h3 hxy hst.none).enter ([true, true, false, false, true, true] ++ List.replicate 23 false) (by kernel_rfl)).cast rfl rfl (by kernel_rfl) (by kernel_rfl))
      refine CallR.frameQ (σ := σ) (r := fun k => match k with | 0 => b1 | 1 => b2 | k + 2 => k + σ.length) ⟨fun k o hk => ?_, fun k hk => ?_⟩ ?_ hc rfl
      · match k, hk with
        | 0, hk => cases hk; exact ⟨_, _, _, rfl, g1, rowOf_all (fun _ => rfl) _⟩
        | 1, hk => cases hk; exact ⟨_, _, _, rfl, g2, rowOf_all (fun _ => rfl) _⟩
        | k + 2, hk => simp at hk
      · match k, hk with
        | k + 2, _ => exact Nat.le_add_left _ _
      · rfl
    · have hc := sfN_p0 o1 x M c1
      refine CallR.frameQ (σ := σ) (r := fun k => match k with | 0 => b1 | k + 1 => k + σ.length) ⟨fun k o hk => ?_, fun k hk => ?_⟩ ?_ hc rfl
      · match k, hk with
        | 0, hk => cases hk; exact ⟨_, _, _, rfl, g1, rowOf_all (fun _ => rfl) _⟩
        | k + 1, hk => simp at hk
      · match k, hk with
        | k + 1, _ => exact Nat.le_add_left _ _
      · rfl
  · cases hs
end Go.Lk
end
