import Derived.Test.YtmomainjlncogaaBd7
import Derived.Test.YtmomainjlncogaaBd6
import Derived.Test.YtmomainjlncogaaBd4
section
/- Null: its contract. -/
namespace Go.Lk
open Go.Proofs
set_option maxRecDepth 100000
set_option linter.unusedVariables false
set_option linter.unusedSimpArgs false
/-- What a walk over a small heap shows. -/
def AnCallF (f : FuncId) (args : List Value) (σ0 : AHeap) (z : Nat) (row : (Nat → Nat) → (Nat → Nat) → Nat → List Value) (x : An) : Prop :=
  (x.n = 0 ∧ ∃ σ', CallR Try.prog false f args σ0 (aVal 0 z x) σ') ∨
  (0 < x.n ∧ ∃ σ' k o, CallR Try.prog false f args σ0 (aVal k z x) σ' ∧ σ'[k]? = some (.row (row x.a x.b x.n) true o) ∧ (o = none ∨ o = some z))
theorem AnCallF.lift {f : FuncId} {args0 args : List Value} {σ0 σ : AHeap} {z : Nat} {row : (Nat → Nat) → (Nat → Nat) → Nat → List Value} {x : An} {r : Nat → Nat} (hp : ∀ a b n, (row a b n).all plain = true)
    (hs : Reads σ0 r σ) (ha : args0.map (renV r 3) = args) (hc : AnCallF f args0 σ0 z row x) : CallR Try.prog false f args σ (aVal σ.length z x) (σ ++ [aObj z row x]) := by
  rcases hc with ⟨h0, σ1, hc⟩ | ⟨h0, σ1, k, o, hc, hk, ho⟩
  · have e1 : aVal σ.length z x = aVal 0 z x := by unfold aVal; rw [h0]; rfl
    have e2 : aObj z row x = .dead := by unfold aObj; rw [h0]
    rw [e1, e2]
    have hv : plain (aVal 0 z x) = true := by unfold aVal; rw [h0]; rfl
    exact (CallR.frameQ hs ha hc hv).addDead hv
  · obtain ⟨n, hn⟩ : ∃ n, x.n = n + 1 := ⟨x.n - 1, by omega⟩
    have e2 : aObj z row x = .row (row x.a x.b x.n) true (some z) := by unfold aObj; rw [hn]
    rw [e2]
    have hN : CallR Try.prog false f args σ (aVal σ.length z x) (σ ++ [.row (row x.a x.b x.n) true o]) := by
      refine CallR.frameN (q := fun b => if b = σ.length then k else b + σ1.length) hs ha hc hk (hp _ _ _) (fun _ => rfl) ?_
      unfold aVal
      rw [hn]
      simp [aSl, renV]
    rcases ho with rfl | rfl
    · exact hN.loosen z (hp _ _ _)
    · exact hN
def sNu (z : Nat) (row : (Nat → Nat) → (Nat → Nat) → Nat → List Value) (h : Nat → (Nat → Nat) → Nat → Int → An) (nl : Bool) : HeapFn
  | [.int .i64 mi, .float .f64 d, .slice none 0 0], σ => bif nl then some (aVal σ.length z (h d (fun _ => 0) 0 mi), σ ++ [aObj z row (h d (fun _ => 0) 0 mi)]) else none
  | [.int .i64 mi, .float .f64 d, .slice (some ⟨b, 0, some 1⟩) n cap], σ =>
    match σ[b]? with
    | some (.row vs _ _) => bif nOk vs n then some (aVal σ.length z (h d (nAt vs) n mi), σ ++ [aObj z row (h d (nAt vs) n mi)]) else none
    | _ => none
  | _, _ => none
theorem sNu_is {f : FuncId} {z : Nat} {row : (Nat → Nat) → (Nat → Nat) → Nat → List Value} {h : Nat → (Nat → Nat) → Nat → Int → An} {nl : Bool} (hp : ∀ a b n, (row a b n).all plain = true)
    (hN : nl = true → ∀ d mi, AnCallF f [.int .i64 mi, .float .f64 d, .slice none 0 0] [] z row (h d (fun _ => 0) 0 mi))
    (hS : ∀ opn (x : Nat → Nat) M n cap d mi, n ≤ M → n ≤ 65536 → AnCallF f [.int .i64 mi, .float .f64 d, .slice (some ⟨0, 0, some 1⟩) n cap] [.row (rowOf (fun i => [.float .f64 (x i)]) M) false opn] z row (h d x n mi)) : IsHeap Try.prog false f false (sNu z row h nl) := by
  refine ⟨fun args σ v σ' hs => ?_, (by intro h; cases h), fun args σ v σ' hs => ?_⟩
  · unfold sNu at hs
    split at hs
    · rename_i mi d
      cases nl
      · cases hs
      · cases hs
        exact (hN rfl d mi).lift (r := fun k => k + σ.length) hp ⟨fun k o hk => by simp at hk, fun k hk => by omega⟩ rfl
    · rename_i mi d b n cap
      split at hs
      · rename_i vs rw' opn hb
        cases hc : nOk vs n
        · rw [hc] at hs; cases hs
        · rw [hc] at hs
          cases hs
          unfold nOk at hc
          simp only [Bool.and_eq_true] at hc
          have hS' := hS opn (nAt vs) vs.length n cap d mi (Nat.le_of_ble_eq_true hc.2.1) (Nat.le_of_ble_eq_true hc.2.2)
          rw [nRow hc.1] at hS'
          refine hS'.lift (r := fun k => if k = 0 then b else k + σ.length) hp ⟨fun k o hk => ?_, fun k hk => ?_⟩ rfl
          · have : k = 0 := by have := lt_of_some hk; simpa using this
            subst this
            simp only [List.getElem?_cons_zero, Option.some.injEq] at hk
            exact ⟨vs, opn, rw', hk.symm, hb, nFlo_plain hc.1⟩
          · have hk : 1 ≤ k := hk
            have : ¬ k = 0 := by omega
            simp only [this, if_false]; omega
      · cases hs
    · cases hs
  · unfold sNu at hs
    split at hs
    · cases nl
      · cases hs
      · cases hs; simp
    · split at hs
      · rename_i vs _ _ _
        generalize nOk vs _ = c at hs
        cases c
        · cases hs
        · cases hs; simp
      · cases hs
    · cases hs
theorem sNu_side {z n cap b M : Nat} {mi : Int} {d : Nat} {row : (Nat → Nat) → (Nat → Nat) → Nat → List Value} {h : Nat → (Nat → Nat) → Nat → Int → An} {nl : Bool} {x : Nat → Nat} {rw' : Bool} {opn : Option Nat} {σ : AHeap}
    (hσ : σ[b]? = some (.row (rowOf (fun i => [.float .f64 (x i)]) M) rw' opn)) (hm : n ≤ M) (hM : n ≤ 65536) (he : ∀ y : Nat → Nat, (∀ i, i < n → y i = x i) → h d y n mi = h d x n mi) :
    sNu z row h nl [.int .i64 mi, .float .f64 d, .slice (some ⟨b, 0, some 1⟩) n cap] σ = some (.tuple #[.slice (aAd σ.length (h d x n mi).n z) (h d x n mi).n (h d x n mi).n, .int .i64 (h d x n mi).e], σ ++ [aObj z row (h d x n mi)]) := by
  unfold sNu
  simp only [hσ, nOk_row hm hM, cond_true, he _ (fun i hi => nAt_row (x := x) (M := M) (by omega)), aVal_eq]
/-! ### The answer -/
def nuAn (bad : Bool) (A B : Nat → Nat) (n : Nat) (mi : Int) : An :=
  bif decide (mi ≤ iN n) then anErr 2 else bif decide (mi > 64) then anErr 3 else bif bad then anErr 6 else ⟨mi.toNat, A, B, 0⟩
def nuOwn (d : Nat) (x : Nat → Nat) (n : Nat) (mi : Int) : An :=
  nuAn (nBad (fun _ => d) 1 || nBad x n) (fun q => (conjC (nW d x) n (n + 1) q).1) (fun q => (conjC (nW d x) n (n + 1) q).2) n mi
theorem conj0 (W : Nat → Nat × Nat) (n m : Nat) : nR (conjC W n 0) m = nR (pc W n) m := by
  have : conjC W n 0 = pc W n := by funext q; unfold conjC; rw [if_neg (by omega)]
  rw [this]
theorem pc0_row (W : Nat → Nat × Nat) (m : Nat) : rowOf (updR (fun _ => [.complex .f64 0 0]) 0 [.complex .f64 4607182418800017408 0]) m = rowOf (cRow (pc W 0)) m :=
  upd_row (f := fun _ => (0, 0)) (g := pc W 0) (k := 0) (m := m) (l := [.complex .f64 4607182418800017408 0]) (fun _ => by unfold cRow; simp only [pc]) (fun q hq hne => by rw [pc_hi _ 0 q (by omega)])
theorem null_small (opn : Option Nat) (x : Nat → Nat) (M n cap d : Nat) (mi : Int) (hm : n ≤ M) (hM : n ≤ 65536) : AnCallF 119 [.int .i64 mi, .float .f64 d, .slice (some ⟨0, 0, some 1⟩) n cap] [.row (rowOf (fun i => [.float .f64 (x i)]) M) false opn] 1 xRow (nuOwn d x n mi) := by
  have sd := sFinN_row (b := 1) (m := 1) (cap := 1) (M := 1) (x := fun _ => d) (rw' := true) (opn := none) (σ := [nA opn x M, nD d]) rfl (Nat.le_refl 1) (by decide)
  have sa := sFinN_row (b := 0) (m := n) (cap := cap) (M := M) (x := x) (rw' := false) (opn := opn) (σ := [nA opn x M, nD d]) rfl hm hM
  unfold nuOwn nuAn
  cases h1 : decide (mi ≤ iN n)
  · cases h2 : decide (mi > 64)
    · rw [cond_false, cond_false]
      cases h3 : nBad (fun _ => d) 1
      · rw [h3] at sd
        cases h4 : nBad x n
        · rw [h4] at sa
          have g1 := of_decide_eq_false h1
          have g2 := of_decide_eq_false h2
          rw [iN_eq] at g1
          obtain ⟨m, rfl⟩ : ∃ m : Nat, mi = iN m := ⟨mi.toNat, by rw [iN_eq]; omega⟩
          rw [iN_eq] at g1 g2
          have hm2 : n < m := by omega
          have h64 : m ≤ 64 := by omega
          have hc := nG_p0 opn x M n cap m d hm hm2 h64 (fun q => (pc (nW d x) n q).1) (fun q => (pc (nW d x) n q).2) (fun q => (conjC (nW d x) n (n + 1) q).1) (fun q => (conjC (nW d x) n (n + 1) q).2)
            (fun hst => ((n_conj opn x M n cap m d (nW d x) hm hm2 h64 hst).enter ([true, true, true, false, false, false, true, true, true, false, false, false, false, false, false, false, false, false, false, false, false, false, false, false, false, false, false, false, false, false, false, false, false, false, false, false, false, false, false, false, false, false, false, false, false, false, false, false, false, false, false, false, false, false, false, false, false, false, false, false, false, false, false, false, false, false, false, false, false, false, false, false, false, false, false, false, false, false, false, false, false, false, false, false, false, false, true, true] ++ List.replicate 12 false) (by kernel_rfl)).cast rfl (by rw [conj0]; rfl) (by kernel_rfl) (by kernel_rfl))
            (fun hst => ((n_outer opn x M n cap m d hm hm2 h64 hst).enter ([true, true, true, false, false, false, true, true, true, false, false, false, false, false, false, false, false, false, false, false, false, false, false, false, false, false, false, false, false, false, false, false, false, false, false, false, true, true, true] ++ List.replicate 61 false) (by kernel_rfl)).cast rfl (by
              show [nA opn x M, nD d, AObj.row (rowOf (cRow (pc (nW d x) 0)) m) true none] = _
              rw [← pc0_row]; rfl) (by kernel_rfl) (by kernel_rfl))
            sa sd
          refine .inr ⟨?_, [nA opn x M, nD d, nR (conjC (nW d x) n (n + 1)) m], 2, none, ?_, rfl, .inl rfl⟩
          · show 0 < (iN m).toNat
            rw [iN_eq]; omega
          · have e : (iN m).toNat = m := rfl
            show CallR _ _ _ _ _ (aVal 2 1 ⟨m, _, _, 0⟩) _
            obtain ⟨q, rfl⟩ : ∃ q, m = q + 1 := ⟨m - 1, by omega⟩
            exact hc
        · rw [h4] at sa
          exact .inl ⟨rfl, _, nE7_p0 opn x M n cap mi d h1 h2 sa sd⟩
      · rw [h3] at sd
        exact .inl ⟨rfl, _, nE6_p0 opn x M n cap mi d h1 h2 sd⟩
    · exact .inl ⟨rfl, _, nE3_p0 opn x M n cap mi d h1 h2⟩
  · exact .inl ⟨rfl, _, nE2_p0 opn x M n cap mi d h1⟩
def sNull : HeapFn := sNu 1 xRow nuOwn false
theorem sNull_ok : IsHeap Try.prog false 119 false sNull := sNu_is xRow_plain (fun h => by cases h) (fun opn x M n cap d mi hm hM => null_small opn x M n cap d mi hm hM)
theorem nW_congr {d : Nat} {x y : Nat → Nat} {n : Nat} (h : ∀ i, i < n → y i = x i) : ∀ q, pc (nW d y) n q = pc (nW d x) n q :=
  pc_congr n (fun j hj => by unfold nW; rw [h j hj])
theorem nuOwn_congr {d n : Nat} {mi : Int} {x y : Nat → Nat} (h : ∀ i, i < n → y i = x i) : nuOwn d y n mi = nuOwn d x n mi := by
  unfold nuOwn
  rw [nBad_congr h]
  have : conjC (nW d y) n (n + 1) = conjC (nW d x) n (n + 1) := by
    funext q; unfold conjC; rw [nW_congr h]
  rw [this]
end Go.Lk
end

section
/- Abs, by itself. -/
namespace Go.Lk
open Go.Proofs
set_option maxRecDepth 100000
set_option maxHeartbeats 0
set_option linter.unusedVariables false
set_option linter.unusedSimpArgs false
noncomputable def LBa : Lib := ⟨Try.prog, false, t2, [(128, Try.f128), (159, Try.f159), (160, Try.f160), (33, Try.f33), (55, Try.f55)], []⟩
theorem LBa_fp : ∀ e, e ∈ LBa.pures → Try.prog.funcs[e.1]? = some e.2 := fs_cons Try.func128 (fs_cons Try.func159 (fs_cons Try.func160 (fs_cons Try.func33 (fs_cons Try.func55 (fs_nil)))))
theorem LBa_fh : ∀ e, e ∈ LBa.heaps → Try.prog.funcs[e.1]? = some e.2.2 := gs_nil
theorem LBa_p1 (gp : Nat → PureFn) (g : Nat → HeapFn) : (LBa.pures.all fun e => fnOk (LBa.mk' gp g) e.2) = true := by kernel_rfl
theorem LBa_h1 (gp : Nat → PureFn) (g : Nat → HeapFn) : (LBa.heaps.all fun e => fnOk (LBa.mk' gp g) e.2.2 && (!e.2.1 || fnRo (LBa.mk' gp g) e.2.2)) = true := by kernel_rfl
theorem LBa_ok : LBa.Ok := ⟨t2_ok, mixed, LBa_fp, LBa_fh, LBa_p1, LBa_h1⟩
noncomputable def dLBa : Cfg := LBa.cfg 100 6
theorem dLBa_ok : dLBa.Ok := LBa_ok.cfg 100 6

theorem bKind_fok : fnOk (dLBa) Try.f159 = true := by kernel_rfl
theorem bKind_p0 (a : Nat) (b : Nat) (σ : AHeap) (h0 : (fgt (fabs a) 9218868437227405311) = true) : CallR Try.prog false 159 [Value.complex .f64 a b] σ (Value.int IntKind.i8 (Int.ofNat 1)) σ := CallR.of_DO_pure (C := dLBa) dLBa_ok Try.func159 bKind_fok (n := 100) (orc := [(10, Item.br true), (11, Item.br true)]) (ps := [(bP (fgt (fabs a) 9218868437227405311) true), (bP (fgt (fabs a) 9218868437227405311) true)]) (σ1 := []) (by kernel_rfl) ⟨bP_of (fun x => x) h0, ⟨bP_of (fun x => x) h0, trivial⟩⟩ rfl rfl
theorem bKind_p1 (a : Nat) (b : Nat) (σ : AHeap) (h0 : (fgt (fabs a) 9218868437227405311) = false) (h1 : (fgt (fabs b) 9218868437227405311) = true) : CallR Try.prog false 159 [Value.complex .f64 a b] σ (Value.int IntKind.i8 (Int.ofNat 1)) σ := CallR.of_DO_pure (C := dLBa) dLBa_ok Try.func159 bKind_fok (n := 100) (orc := [(10, Item.br false), (19, Item.br true)]) (ps := [(bP (fgt (fabs a) 9218868437227405311) false), (bP (fgt (fabs b) 9218868437227405311) true)]) (σ1 := []) (by kernel_rfl) ⟨bP_of (fun x => x) h0, ⟨bP_of (fun x => x) h1, trivial⟩⟩ rfl rfl
theorem bKind_p2 (a : Nat) (b : Nat) (σ : AHeap) (h0 : (fgt (fabs a) 9218868437227405311) = false) (h1 : (fgt (fabs b) 9218868437227405311) = false) (h2 : (feq a a) = true) (h3 : (feq b b) = true) : CallR Try.prog false 159 [Value.complex .f64 a b] σ (Value.int IntKind.i8 (Int.ofNat 0)) σ := CallR.of_DO_pure (C := dLBa) dLBa_ok Try.func159 bKind_fok (n := 100) (orc := [(10, Item.br false), (19, Item.br false), (32, Item.br false), (45, Item.br false)]) (ps := [(bP (fgt (fabs a) 9218868437227405311) false), (bP (fgt (fabs b) 9218868437227405311) false), (bP (!feq a a) false), (bP (!feq b b) false)]) (σ1 := []) (by kernel_rfl) ⟨bP_of (fun x => x) h0, ⟨bP_of (fun x => x) h1, ⟨bP_of (fun x => !x) h2, ⟨bP_of (fun x => !x) h3, trivial⟩⟩⟩⟩ rfl rfl
theorem bKind_p3 (a : Nat) (b : Nat) (σ : AHeap) (h0 : (fgt (fabs a) 9218868437227405311) = false) (h1 : (fgt (fabs b) 9218868437227405311) = false) (h2 : (feq a a) = true) (h3 : (feq b b) = false) : CallR Try.prog false 159 [Value.complex .f64 a b] σ (Value.int IntKind.i8 (Int.ofNat 2)) σ := CallR.of_DO_pure (C := dLBa) dLBa_ok Try.func159 bKind_fok (n := 100) (orc := [(10, Item.br false), (19, Item.br false), (32, Item.br false), (45, Item.br true)]) (ps := [(bP (fgt (fabs a) 9218868437227405311) false), (bP (fgt (fabs b) 9218868437227405311) false), (bP (!feq a a) false), (bP (!feq b b) true)]) (σ1 := []) (by kernel_rfl) ⟨bP_of (fun x => x) h0, ⟨bP_of (fun x => x) h1, ⟨bP_of (fun x => !x) h2, ⟨bP_of (fun x => !x) h3, trivial⟩⟩⟩⟩ rfl rfl
theorem bKind_p4 (a : Nat) (b : Nat) (σ : AHeap) (h0 : (fgt (fabs a) 9218868437227405311) = false) (h1 : (fgt (fabs b) 9218868437227405311) = false) (h2 : (feq a a) = false) : CallR Try.prog false 159 [Value.complex .f64 a b] σ (Value.int IntKind.i8 (Int.ofNat 2)) σ := CallR.of_DO_pure (C := dLBa) dLBa_ok Try.func159 bKind_fok (n := 100) (orc := [(10, Item.br false), (19, Item.br false), (32, Item.br true), (33, Item.br true)]) (ps := [(bP (fgt (fabs a) 9218868437227405311) false), (bP (fgt (fabs b) 9218868437227405311) false), (bP (!feq a a) true), (bP (!feq a a) true)]) (σ1 := []) (by kernel_rfl) ⟨bP_of (fun x => x) h0, ⟨bP_of (fun x => x) h1, ⟨bP_of (fun x => !x) h2, ⟨bP_of (fun x => !x) h2, trivial⟩⟩⟩⟩ rfl rfl
def bKind_t (a : Nat) (b : Nat) : Value := (bif fgt (fabs a) 9218868437227405311 then (Value.int IntKind.i8 (Int.ofNat 1)) else (bif fgt (fabs b) 9218868437227405311 then (Value.int IntKind.i8 (Int.ofNat 1)) else (bif feq a a then (bif feq b b then (Value.int IntKind.i8 (Int.ofNat 0)) else (Value.int IntKind.i8 (Int.ofNat 2))) else (Value.int IntKind.i8 (Int.ofNat 2)))))
theorem bKind_c (a : Nat) (b : Nat) (σ : AHeap) : CallR Try.prog false 159 [Value.complex .f64 a
    b] σ (bKind_t a b) σ := by
  unfold bKind_t
  exact (CallR.bif (fun h0 => (bKind_p0 a b σ h0)) (fun h0 => (CallR.bif (fun h1 => (bKind_p1 a b σ h0 h1)) (fun h1 => (CallR.bif (fun h2 => (CallR.bif (fun h3 => (bKind_p2 a b σ h0 h1 h2 h3)) (fun h3 => (bKind_p3 a b σ h0 h1 h2 h3)))) (fun h2 => (bKind_p4 a b σ h0 h1 h2)))))))
def bKind_0 (a : Nat) (b : Nat) : Int := (bif fgt (fabs a) 9218868437227405311 then Int.ofNat 1 else (bif fgt (fabs b) 9218868437227405311 then Int.ofNat 1 else (bif feq a a then (bif feq b b then Int.ofNat 0 else Int.ofNat 2) else Int.ofNat 2)))
theorem bKind_v (a : Nat) (b : Nat) : bKind_t a b = Go.Value.int Go.IntKind.i8 (bKind_0 a b) := by
  unfold bKind_t bKind_0
  cases (fgt (fabs a) 9218868437227405311) with
  | true =>
    kernel_rfl
  | false =>
    cases (fgt (fabs b) 9218868437227405311) with
    | true =>
      kernel_rfl
    | false =>
      cases (feq a a) with
      | true =>
        cases (feq b b) with
        | true =>
          kernel_rfl
        | false =>
          kernel_rfl
      | false =>
        kernel_rfl
theorem bKind_ok (a : Nat) (b : Nat) (σ : AHeap) : CallR Try.prog false 159 [Value.complex .f64 a
    b] σ (Go.Value.int Go.IntKind.i8 (bKind_0 a b)) σ := by
  have h := bKind_c a b σ
  rw [bKind_v] at h
  exact h
def sBKind : PureFn
  | [.complex .f64 a b] => some (.int .i8 (bKind_0 a b))
  | _ => none
theorem sBKind_ok : IsPure Try.prog false 159 sBKind := by
  intro args v σ h
  unfold sBKind at h
  split at h
  · cases h; exact bKind_ok _ _ σ
  · cases h
noncomputable def tba : Tab := (t2.addP 159 sBKind)
theorem tba_ok : tba.Ok Try.prog false := (Tab.Ok.addP t2_ok sBKind_ok)
noncomputable def LBb : Lib := ⟨Try.prog, false, tba, [(128, Try.f128), (160, Try.f160), (33, Try.f33), (55, Try.f55)], []⟩
theorem LBb_fp : ∀ e, e ∈ LBb.pures → Try.prog.funcs[e.1]? = some e.2 := fs_cons Try.func128 (fs_cons Try.func160 (fs_cons Try.func33 (fs_cons Try.func55 (fs_nil))))
theorem LBb_fh : ∀ e, e ∈ LBb.heaps → Try.prog.funcs[e.1]? = some e.2.2 := gs_nil
theorem LBb_p1 (gp : Nat → PureFn) (g : Nat → HeapFn) : (LBb.pures.all fun e => fnOk (LBb.mk' gp g) e.2) = true := by kernel_rfl
theorem LBb_h1 (gp : Nat → PureFn) (g : Nat → HeapFn) : (LBb.heaps.all fun e => fnOk (LBb.mk' gp g) e.2.2 && (!e.2.1 || fnRo (LBb.mk' gp g) e.2.2)) = true := by kernel_rfl
theorem LBb_ok : LBb.Ok := ⟨tba_ok, mixed, LBb_fp, LBb_fh, LBb_p1, LBb_h1⟩
noncomputable def dLBb : Cfg := LBb.cfg 100 6
theorem dLBb_ok : dLBb.Ok := LBb_ok.cfg 100 6

theorem bAbs_fok : fnOk (dLBb) Try.f89 = true := by kernel_rfl
theorem bAbs_p0 (a : Nat) (b : Nat) (σ : AHeap) (h0 : (bKind_0 a b == Int.ofNat 1) = true) : CallR Try.prog false 89 [Value.complex .f64 a b] σ (Value.float .f64 9218868437227405312) σ := CallR.of_DO_pure (C := dLBb) dLBb_ok Try.func89 bAbs_fok (n := 100) (orc := [(26, Item.br true)]) (ps := [(bP (bKind_0 a b == Int.ofNat 1) true)]) (σ1 := []) (by kernel_rfl) ⟨bP_of (fun x => x) h0, trivial⟩ rfl rfl
theorem bAbs_p1 (a : Nat) (b : Nat) (σ : AHeap) (h0 : (bKind_0 a b == Int.ofNat 1) = false) (h1 : (bKind_0 a b == Int.ofNat 2) = true) : CallR Try.prog false 89 [Value.complex .f64 a b] σ (Value.float .f64 9221120237041090561) σ := CallR.of_DO_pure (C := dLBb) dLBb_ok Try.func89 bAbs_fok (n := 100) (orc := [(26, Item.br false), (31, Item.br true)]) (ps := [(bP (bKind_0 a b == Int.ofNat 1) false), (bP (bKind_0 a b == Int.ofNat 2) true)]) (σ1 := []) (by kernel_rfl) ⟨bP_of (fun x => x) h0, ⟨bP_of (fun x => x) h1, trivial⟩⟩ rfl rfl
theorem bAbs_p2 (a : Nat) (b : Nat) (σ : AHeap) (h0 : (bKind_0 a b == Int.ofNat 1) = false) (h1 : (bKind_0 a b == Int.ofNat 2) = false) (h2 : (feq (fmax (fabs a) (fabs b)) 0) = true) : CallR Try.prog false 89 [Value.complex .f64 a b] σ (Value.float .f64 0) σ := CallR.of_DO_pure (C := dLBb) dLBb_ok Try.func89 bAbs_fok (n := 100) (orc := [(26, Item.br false), (31, Item.br false), (52, Item.br true)]) (ps := [(bP (bKind_0 a b == Int.ofNat 1) false), (bP (bKind_0 a b == Int.ofNat 2) false), (bP (feq (fmax (fabs a) (fabs b)) 0) true)]) (σ1 := []) (by kernel_rfl) ⟨bP_of (fun x => x) h0, ⟨bP_of (fun x => x) h1, ⟨bP_of (fun x => x) h2, trivial⟩⟩⟩ rfl rfl
theorem bAbs_p3 (a : Nat) (b : Nat) (σ : AHeap) (h0 : (bKind_0 a b == Int.ofNat 1) = false) (h1 : (bKind_0 a b == Int.ofNat 2) = false) (h2 : (feq (fmax (fabs a) (fabs b)) 0) = false) : CallR Try.prog false 89 [Value.complex .f64 a b] σ (Value.float .f64 (fmul (fmax (fabs a) (fabs b)) (fsqrt (fadd 4607182418800017408 (fmul (fdiv (fmin (fabs a) (fabs b)) (fmax (fabs a) (fabs b))) (fdiv (fmin (fabs a) (fabs b)) (fmax (fabs a) (fabs b)))))))) σ := CallR.of_DO_pure (C := dLBb) dLBb_ok Try.func89 bAbs_fok (n := 100) (orc := [(26, Item.br false), (31, Item.br false), (52, Item.br false)]) (ps := [(bP (bKind_0 a b == Int.ofNat 1) false), (bP (bKind_0 a b == Int.ofNat 2) false), (bP (feq (fmax (fabs a) (fabs b)) 0) false)]) (σ1 := []) (by kernel_rfl) ⟨bP_of (fun x => x) h0, ⟨bP_of (fun x => x) h1, ⟨bP_of (fun x => x) h2, trivial⟩⟩⟩ rfl rfl
def bAbs_t (a : Nat) (b : Nat) : Value := (bif bKind_0 a b == Int.ofNat 1 then (Value.float .f64 9218868437227405312) else (bif bKind_0 a b == Int.ofNat 2 then (Value.float .f64 9221120237041090561) else (bif feq (fmax (fabs a) (fabs b)) 0 then (Value.float .f64 0) else (Value.float .f64 (fmul (fmax (fabs a) (fabs b)) (fsqrt (fadd 4607182418800017408 (fmul (fdiv (fmin (fabs a) (fabs b)) (fmax (fabs a) (fabs b))) (fdiv (fmin (fabs a) (fabs b)) (fmax (fabs a) (fabs b)))))))))))
theorem bAbs_c (a : Nat) (b : Nat) (σ : AHeap) : CallR Try.prog false 89 [Value.complex .f64 a b] σ (bAbs_t a b) σ := by
  unfold bAbs_t
  exact (CallR.bif (fun h0 => (bAbs_p0 a b σ h0)) (fun h0 => (CallR.bif (fun h1 => (bAbs_p1 a b σ h0 h1)) (fun h1 => (CallR.bif (fun h2 => (bAbs_p2 a b σ h0 h1 h2)) (fun h2 => (bAbs_p3 a b σ h0 h1 h2)))))))
def bAbs_0 (a : Nat) (b : Nat) : Nat := (bif bKind_0 a b == Int.ofNat 1 then 9218868437227405312 else (bif bKind_0 a b == Int.ofNat 2 then 9221120237041090561 else (bif feq (fmax (fabs a) (fabs b)) 0 then 0 else fmul (fmax (fabs a) (fabs b)) (fsqrt (fadd 4607182418800017408 (fmul (fdiv (fmin (fabs a) (fabs b)) (fmax (fabs a) (fabs b))) (fdiv (fmin (fabs a) (fabs b)) (fmax (fabs a) (fabs b)))))))))
theorem bAbs_v (a : Nat) (b : Nat) : bAbs_t a b = Go.Value.float Go.FloatKind.f64 (bAbs_0 a b) := by
  unfold bAbs_t bAbs_0
  cases (bKind_0 a b == Int.ofNat 1) with
  | true =>
    kernel_rfl
  | false =>
    cases (bKind_0 a b == Int.ofNat 2) with
    | true =>
      kernel_rfl
    | false =>
      cases (feq (fmax (fabs a) (fabs b)) 0) with
      | true =>
        kernel_rfl
      | false =>
        kernel_rfl
theorem bAbs_ok (a : Nat) (b : Nat) (σ : AHeap) : CallR Try.prog false 89 [Value.complex .f64 a
    b] σ (Go.Value.float Go.FloatKind.f64 (bAbs_0 a b)) σ := by
  have h := bAbs_c a b σ
  rw [bAbs_v] at h
  exact h
end Go.Lk
end

section
/- BeamDeaf: the table is built. -/
namespace Go.Lk
open Go.Proofs
set_option maxRecDepth 100000
set_option maxHeartbeats 0
set_option linter.unusedVariables false
set_option linter.unusedSimpArgs false
-- closed rows
def sAbsD : PureFn
  | [.complex .f64 a b] => some (.float .f64 (bAbs_0 a b))
  | _ => none
theorem sAbsD_ok : IsPure Try.prog false 89 sAbsD := by
  intro args v σ h
  unfold sAbsD at h
  split at h
  · cases h; exact bAbs_ok _ _ σ
  · cases h
noncomputable def tdf : Tab := ((tsv.addH 119 false sNull).addP 89 sAbsD)
theorem tdf_ok : tdf.Ok Try.prog false := (Tab.Ok.addP (Tab.Ok.addH tsv_ok sNull_ok) sAbsD_ok)
noncomputable def LDf : Lib := ⟨Try.prog, false, tdf, [], []⟩
theorem LDf_fp : ∀ e, e ∈ LDf.pures → Try.prog.funcs[e.1]? = some e.2 := fs_nil
theorem LDf_fh : ∀ e, e ∈ LDf.heaps → Try.prog.funcs[e.1]? = some e.2.2 := gs_nil
theorem LDf_p1 (gp : Nat → PureFn) (g : Nat → HeapFn) : (LDf.pures.all fun e => fnOk (LDf.mk' gp g) e.2) = true := by kernel_rfl
theorem LDf_h1 (gp : Nat → PureFn) (g : Nat → HeapFn) : (LDf.heaps.all fun e => fnOk (LDf.mk' gp g) e.2.2 && (!e.2.1 || fnRo (LDf.mk' gp g) e.2.2)) = true := by kernel_rfl
theorem LDf_ok : LDf.Ok := ⟨tdf_ok, mixed, LDf_fp, LDf_fh, LDf_p1, LDf_h1⟩
noncomputable def dLDf : Cfg := LDf.cfg 100 4
theorem dLDf_ok : dLDf.Ok := LDf_ok.cfg 100 4

def dfF (n m cap d ms t : Nat) (l : Value) (k : Nat) : List Value := [.int .i64 (iN n), .float .f64 d, .slice (some ⟨0, 0, some 1⟩) m cap, undef, undef, undef, .bool false, .slice (some ⟨1, 0, some 1⟩) n n, undef, .float .f64 ms, undef, .int .i64 (iN t), .slice (some ⟨2, 0, some 1⟩) n n, .int .i64 0, l, .int .i64 (iN k)] ++ List.replicate 92 undef
theorem df0_okX : codeOkX (dLDf) [] (loopOf Try.f30 2) = true := by kernel_rfl
theorem df0_p0 (opn : Option Nat) (x : Nat → Nat) (M : Nat) (n : Nat) (u : Nat → Nat) (v : Nat → Nat) (a : Nat → Nat) (b : Nat → Nat) (h0 : 0 < n) (hn : n ≤ 64) (m : Nat) (cap : Nat) (d : Nat) (ms : Nat) (t : Nat) (s0 : aAppend Try.prog ([AObj.row (rowOf (fun i => [Value.float .f64 (x i)]) M) false opn, AObj.row (rowOf (fun i => [Value.complex .f64 (a i) (b i)]) n) true (some 1), AObj.row (rowOf (fun i => [Value.complex .f64 (u i) (v i)]) n) true none, AObj.row [Value.slice (some ⟨2, 0, some 1⟩) 1 n] true none]) [101, 101] ([Value.slice none 0 0, Value.slice (some { block := [AObj.row (rowOf (fun i => [Value.float .f64 (x i)]) M) false opn, AObj.row (rowOf (fun i => [Value.complex .f64 (a i) (b i)]) n) true (some 1), AObj.row (rowOf (fun i => [Value.complex .f64 (u i) (v i)]) n) true none].length, off := 0, spot := some 1 }) 1 1]) = some (Value.slice (some ⟨4, 0, some 1⟩) 1 1, [AObj.row (rowOf (fun i => [Value.float .f64 (x i)]) M) false opn, AObj.row (rowOf (fun i => [Value.complex .f64 (a i) (b i)]) n) true (some 1), AObj.row (rowOf (fun i => [Value.complex .f64 (u i) (v i)]) n) true none, AObj.row [Value.slice (some ⟨2, 0, some 1⟩) 1 n] true none, AObj.row (rowOf (fun i => [Value.slice (some { block := 2, off := 0 + i * 1, spot := some 1 }) 1 (n - i)]) 1) true (some 1)])) (hst : Stood false ([.row (rowOf (fun i => [.float .f64 (x i)]) M) false opn])) : Sim (dLDf) 3 (loopOf Try.f30 2) ((dfF n m cap d ms t (.slice none 0 0) 0)) ([.row (rowOf (fun i => [.float .f64 (x i)]) M) false opn, .row (rowOf (fun i => [.complex .f64 (a i) (b i)]) n) true (some 1), .row (rowOf (fun i => [.complex .f64 (u i) (v i)]) n) true none]) .normal ([Value.int .i64 (iN n), Value.float .f64 d, Value.slice (some ⟨0, 0, some 1⟩) m cap, undef, undef, undef, Value.bool false, Value.slice (some ⟨1, 0, some 1⟩) n n, undef, Value.float .f64 ms, undef, Value.int .i64 (iN t), Value.slice (some ⟨2, 0, some 1⟩) n n, Value.int .i64 (Int.ofNat 0), Value.slice (some ⟨3, 0, some 1⟩) 1 1, Value.int .i64 (Int.ofNat 1), undef, undef, undef, undef, undef, undef, undef, undef, undef, undef, undef, undef, undef, undef, undef, undef, undef, undef, undef, undef, undef, undef, undef, undef, undef, undef, undef, undef, undef, undef, undef, undef, undef, undef, undef, undef, undef, undef, undef, undef, undef, undef, undef, undef, undef, undef, undef, undef, undef, undef, undef, undef, undef, undef, undef, undef, undef, undef, undef, undef, undef, undef, undef, undef, undef, undef, undef, undef, undef, undef, undef, undef, undef, undef, undef, undef, undef, undef, undef, undef, undef, undef, undef, undef, undef, undef, undef, undef, undef, undef, undef, undef]) ([AObj.row (rowOf (fun i => [Value.float .f64 (x i)]) M) false opn, AObj.row (rowOf (fun i => [Value.complex .f64 (a i) (b i)]) n) true (some 1), AObj.row (rowOf (fun i => [Value.complex .f64 (u i) (v i)]) n) true none, AObj.row (rowOf (fun i => [Value.slice (some { block := 2, off := 0 + i * 1, spot := some 1 }) 1 (n - i)]) 1) true (some 1)]) := Sim.of_roundC (C := dLDf) dLDf_ok (X := []) (n := 3) (orc := [(8, Item.br true), (20, Item.eff (Value.slice (some ⟨2, 0, some 1⟩) 1 n) [AObj.row (rowOf (fun i => [Value.float .f64 (x i)]) M) false opn, AObj.row (rowOf (fun i => [Value.complex .f64 (a i) (b i)]) n) true (some 1), AObj.row (rowOf (fun i => [Value.complex .f64 (u i) (v i)]) n) true none]), (24, Item.eff (Value.slice (some ⟨4, 0, some 1⟩) 1 1) [AObj.row (rowOf (fun i => [Value.float .f64 (x i)]) M) false opn, AObj.row (rowOf (fun i => [Value.complex .f64 (a i) (b i)]) n) true (some 1), AObj.row (rowOf (fun i => [Value.complex .f64 (u i) (v i)]) n) true none, AObj.row [Value.slice (some ⟨2, 0, some 1⟩) 1 n] true none, AObj.row (rowOf (fun i => [Value.slice (some { block := 2, off := 0 + i * 1, spot := some 1 }) 1 (n - i)]) 1) true (some 1)])]) (ks := [0, 1, 2, 4]) (mask := [true, true, true, false, false, false, true, true, false, true, false, true, true, true, true, true, false, false, false, false, false, false, false, false, false, false, false, false, false, false, false, false, false, false, false, false, false, false, false, false, false, false, false, false, false, false, false, false, false, false, false, false, false, false, false, false, false, false, false, false, false, false, false, false, false, false, false, false, false, false, false, false, false, false, false, false, false, false, false, false, false, false, false, false, false, false, false, false, false, false, false, false, false, false, false, false, false, false, false, false, false, false, false, false, false, false, false, false]) (ps := [(some (decide (Int.ofNat 0 < iN n)) = some true), (ldF (aSlice Try.prog 66 (Value.slice (some ⟨2, 0, some 1⟩) n n) (some (Value.int .i64 (iN 0))) (some (Value.int .i64 (iN 1))) (none)) ([AObj.row (rowOf (fun i => [Value.float .f64 (x i)]) M) false opn, AObj.row (rowOf (fun i => [Value.complex .f64 (a i) (b i)]) n) true (some 1), AObj.row (rowOf (fun i => [Value.complex .f64 (u i) (v i)]) n) true none]) = some (Value.slice (some ⟨2, 0, some 1⟩) 1 n, [AObj.row (rowOf (fun i => [Value.float .f64 (x i)]) M) false opn, AObj.row (rowOf (fun i => [Value.complex .f64 (a i) (b i)]) n) true (some 1), AObj.row (rowOf (fun i => [Value.complex .f64 (u i) (v i)]) n) true none])), (aAppend Try.prog ([AObj.row (rowOf (fun i => [Value.float .f64 (x i)]) M) false opn, AObj.row (rowOf (fun i => [Value.complex .f64 (a i) (b i)]) n) true (some 1), AObj.row (rowOf (fun i => [Value.complex .f64 (u i) (v i)]) n) true none, AObj.row [Value.slice (some ⟨2, 0, some 1⟩) 1 n] true none]) [101, 101] ([Value.slice none 0 0, Value.slice (some { block := [AObj.row (rowOf (fun i => [Value.float .f64 (x i)]) M) false opn, AObj.row (rowOf (fun i => [Value.complex .f64 (a i) (b i)]) n) true (some 1), AObj.row (rowOf (fun i => [Value.complex .f64 (u i) (v i)]) n) true none].length, off := 0, spot := some 1 }) 1 1]) = some (Value.slice (some ⟨4, 0, some 1⟩) 1 1, [AObj.row (rowOf (fun i => [Value.float .f64 (x i)]) M) false opn, AObj.row (rowOf (fun i => [Value.complex .f64 (a i) (b i)]) n) true (some 1), AObj.row (rowOf (fun i => [Value.complex .f64 (u i) (v i)]) n) true none, AObj.row [Value.slice (some ⟨2, 0, some 1⟩) 1 n] true none, AObj.row (rowOf (fun i => [Value.slice (some { block := 2, off := 0 + i * 1, spot := some 1 }) 1 (n - i)]) 1) true (some 1)]))]) (L := 5) 3 df0_okX (by kernel_rfl) ⟨bP_of (fun x => x) (show (decide (Int.ofNat 0 < iN n)) = true from decide_eq_true (by (try simp only [decide_eq_true_eq, decide_eq_false_iff_not] at *); (try simp only [iN_eq, Int.ofNat_eq_natCast] at *); try omega)), ⟨ldF_ok (slice_op (e := 27) (z := 1) (l := 0) (h := 1) (by kernel_rfl) (by kernel_rfl) (bnd_int (by (try simp only [decide_eq_true_eq, decide_eq_false_iff_not] at *); (try simp only [iN_eq, Int.ofNat_eq_natCast] at *); try omega)) (bnd_int (by (try simp only [decide_eq_true_eq, decide_eq_false_iff_not] at *); (try simp only [iN_eq, Int.ofNat_eq_natCast] at *); try omega)) (by (try simp only [decide_eq_true_eq, decide_eq_false_iff_not] at *); (try simp only [iN_eq, Int.ofNat_eq_natCast] at *); try omega) (by (try simp only [decide_eq_true_eq, decide_eq_false_iff_not] at *); (try simp only [iN_eq, Int.ofNat_eq_natCast] at *); try omega) (by (try simp only [decide_eq_true_eq, decide_eq_false_iff_not] at *); (try simp only [iN_eq, Int.ofNat_eq_natCast] at *); try omega) (by (try simp only [decide_eq_true_eq, decide_eq_false_iff_not] at *); (try simp only [iN_eq, Int.ofNat_eq_natCast] at *); try omega)), ⟨s0, trivial⟩⟩⟩ hst (by kernel_rfl) (by kernel_rfl) (by kernel_rfl) (by decide) (by kernel_rfl) ⟨by first | exact stay_plain (rowOf_all (fun _ => rfl) _) | exact stay_closed (rowOf_all (fun _ => rfl) _), ⟨by first | exact stay_plain (rowOf_all (fun _ => rfl) _) | exact stay_closed (rowOf_all (fun _ => rfl) _), ⟨by first | exact stay_plain (rowOf_all (fun _ => rfl) _) | exact stay_closed (rowOf_all (fun _ => rfl) _), trivial⟩⟩⟩
theorem df1_okX : codeOkX (dLDf) [] (loopOf Try.f30 2) = true := by kernel_rfl
theorem df1_p0 (opn : Option Nat) (x : Nat → Nat) (M : Nat) (n : Nat) (u : Nat → Nat) (v : Nat → Nat) (a : Nat → Nat) (b : Nat → Nat) (h0 : 0 < n) (hn : n ≤ 64) (m : Nat) (cap : Nat) (d : Nat) (ms : Nat) (t : Nat) (k : Nat) (h00 : 0 < k) (hk : k < n) (s0 : aAppend Try.prog ([AObj.row (rowOf (fun i => [Value.float .f64 (x i)]) M) false opn, AObj.row (rowOf (fun i => [Value.complex .f64 (a i) (b i)]) n) true (some 1), AObj.row (rowOf (fun i => [Value.complex .f64 (u i) (v i)]) n) true none, AObj.row (rowOf (fun i => [Value.slice (some { block := 2, off := 0 + i * 1, spot := some 1 }) 1 (n - i)]) k) true (some 1), AObj.row [Value.slice (some { block := 2, off := 0 + k * 1, spot := some 1 }) (k + 1 - k) (n - k)] true none]) [101, 101] ([Value.slice (some ⟨3, 0, some 1⟩) k k, Value.slice (some { block := [AObj.row (rowOf (fun i => [Value.float .f64 (x i)]) M) false opn, AObj.row (rowOf (fun i => [Value.complex .f64 (a i) (b i)]) n) true (some 1), AObj.row (rowOf (fun i => [Value.complex .f64 (u i) (v i)]) n) true none, AObj.row (rowOf (fun i => [Value.slice (some { block := 2, off := 0 + i * 1, spot := some 1 }) 1 (n - i)]) k) true (some 1)].length, off := 0, spot := some 1 }) 1 1]) = some (Value.slice (some ⟨5, 0, some 1⟩) (k + 1) (k + 1), [AObj.row (rowOf (fun i => [Value.float .f64 (x i)]) M) false opn, AObj.row (rowOf (fun i => [Value.complex .f64 (a i) (b i)]) n) true (some 1), AObj.row (rowOf (fun i => [Value.complex .f64 (u i) (v i)]) n) true none, AObj.dead, AObj.row [Value.slice (some { block := 2, off := 0 + k * 1, spot := some 1 }) 1 (n - k)] true none, AObj.row (rowOf (fun i => [Value.slice (some { block := 2, off := 0 + i * 1, spot := some 1 }) 1 (n - i)]) (k + 1)) true (some 1)])) (hst : Stood false ([.row (rowOf (fun i => [.float .f64 (x i)]) M) false opn])) : Sim (dLDf) 3 (loopOf Try.f30 2) ((dfF n m cap d ms t (.slice (some ⟨3, 0, some 1⟩) k k) k)) ([.row (rowOf (fun i => [.float .f64 (x i)]) M) false opn, .row (rowOf (fun i => [.complex .f64 (a i) (b i)]) n) true (some 1), .row (rowOf (fun i => [.complex .f64 (u i) (v i)]) n) true none, .row (rowOf (fun i => [.slice (some ⟨2, 0 + i * 1, some 1⟩) 1 (n - i)]) k) true (some 1)]) .normal ([Value.int .i64 (iN n), Value.float .f64 d, Value.slice (some ⟨0, 0, some 1⟩) m cap, undef, undef, undef, Value.bool false, Value.slice (some ⟨1, 0, some 1⟩) n n, undef, Value.float .f64 ms, undef, Value.int .i64 (iN t), Value.slice (some ⟨2, 0, some 1⟩) n n, Value.int .i64 (Int.ofNat 0), Value.slice (some ⟨3, 0, some 1⟩) (k + 1) (k + 1), Value.int .i64 (iN (k + 1)), undef, undef, undef, undef, undef, undef, undef, undef, undef, undef, undef, undef, undef, undef, undef, undef, undef, undef, undef, undef, undef, undef, undef, undef, undef, undef, undef, undef, undef, undef, undef, undef, undef, undef, undef, undef, undef, undef, undef, undef, undef, undef, undef, undef, undef, undef, undef, undef, undef, undef, undef, undef, undef, undef, undef, undef, undef, undef, undef, undef, undef, undef, undef, undef, undef, undef, undef, undef, undef, undef, undef, undef, undef, undef, undef, undef, undef, undef, undef, undef, undef, undef, undef, undef, undef, undef, undef, undef, undef, undef, undef, undef]) ([AObj.row (rowOf (fun i => [Value.float .f64 (x i)]) M) false opn, AObj.row (rowOf (fun i => [Value.complex .f64 (a i) (b i)]) n) true (some 1), AObj.row (rowOf (fun i => [Value.complex .f64 (u i) (v i)]) n) true none, AObj.row (rowOf (fun i => [Value.slice (some { block := 2, off := 0 + i * 1, spot := some 1 }) 1 (n - i)]) (k + 1)) true (some 1)]) := Sim.of_roundC (C := dLDf) dLDf_ok (X := []) (n := 3) (orc := [(8, Item.br true), (18, Item.res (Value.int .i64 (iN (k + 1)))), (20, Item.eff (Value.slice (some { block := 2, off := 0 + k * 1, spot := some 1 }) (k + 1 - k) (n - k)) [AObj.row (rowOf (fun i => [Value.float .f64 (x i)]) M) false opn, AObj.row (rowOf (fun i => [Value.complex .f64 (a i) (b i)]) n) true (some 1), AObj.row (rowOf (fun i => [Value.complex .f64 (u i) (v i)]) n) true none, AObj.row (rowOf (fun i => [Value.slice (some { block := 2, off := 0 + i * 1, spot := some 1 }) 1 (n - i)]) k) true (some 1)]), (24, Item.eff (Value.slice (some ⟨5, 0, some 1⟩) (k + 1) (k + 1)) [AObj.row (rowOf (fun i => [Value.float .f64 (x i)]) M) false opn, AObj.row (rowOf (fun i => [Value.complex .f64 (a i) (b i)]) n) true (some 1), AObj.row (rowOf (fun i => [Value.complex .f64 (u i) (v i)]) n) true none, AObj.dead, AObj.row [Value.slice (some { block := 2, off := 0 + k * 1, spot := some 1 }) 1 (n - k)] true none, AObj.row (rowOf (fun i => [Value.slice (some { block := 2, off := 0 + i * 1, spot := some 1 }) 1 (n - i)]) (k + 1)) true (some 1)]), (30, Item.res (Value.int .i64 (iN (k + 1))))]) (ks := [0, 1, 2, 5]) (mask := [true, true, true, false, false, false, true, true, false, true, false, true, true, true, true, true, false, false, false, false, false, false, false, false, false, false, false, false, false, false, false, false, false, false, false, false, false, false, false, false, false, false, false, false, false, false, false, false, false, false, false, false, false, false, false, false, false, false, false, false, false, false, false, false, false, false, false, false, false, false, false, false, false, false, false, false, false, false, false, false, false, false, false, false, false, false, false, false, false, false, false, false, false, false, false, false, false, false, false, false, false, false, false, false, false, false, false, false]) (ps := [(some (decide (iN k < iN n)) = some true), (wF IntKind.i64 (iN k + 1) ([AObj.row (rowOf (fun i => [Value.float .f64 (x i)]) M) false opn, AObj.row (rowOf (fun i => [Value.complex .f64 (a i) (b i)]) n) true (some 1), AObj.row (rowOf (fun i => [Value.complex .f64 (u i) (v i)]) n) true none, AObj.row (rowOf (fun i => [Value.slice (some { block := 2, off := 0 + i * 1, spot := some 1 }) 1 (n - i)]) k) true (some 1)]) = some (.int IntKind.i64 (iN (k + 1)), [AObj.row (rowOf (fun i => [Value.float .f64 (x i)]) M) false opn, AObj.row (rowOf (fun i => [Value.complex .f64 (a i) (b i)]) n) true (some 1), AObj.row (rowOf (fun i => [Value.complex .f64 (u i) (v i)]) n) true none, AObj.row (rowOf (fun i => [Value.slice (some { block := 2, off := 0 + i * 1, spot := some 1 }) 1 (n - i)]) k) true (some 1)])), (ldF (aSlice Try.prog 66 (Value.slice (some ⟨2, 0, some 1⟩) n n) (some (Value.int .i64 (iN k))) (some (Value.int .i64 (iN (k + 1)))) (none)) ([AObj.row (rowOf (fun i => [Value.float .f64 (x i)]) M) false opn, AObj.row (rowOf (fun i => [Value.complex .f64 (a i) (b i)]) n) true (some 1), AObj.row (rowOf (fun i => [Value.complex .f64 (u i) (v i)]) n) true none, AObj.row (rowOf (fun i => [Value.slice (some { block := 2, off := 0 + i * 1, spot := some 1 }) 1 (n - i)]) k) true (some 1)]) = some (Value.slice (some { block := 2, off := 0 + k * 1, spot := some 1 }) (k + 1 - k) (n - k), [AObj.row (rowOf (fun i => [Value.float .f64 (x i)]) M) false opn, AObj.row (rowOf (fun i => [Value.complex .f64 (a i) (b i)]) n) true (some 1), AObj.row (rowOf (fun i => [Value.complex .f64 (u i) (v i)]) n) true none, AObj.row (rowOf (fun i => [Value.slice (some { block := 2, off := 0 + i * 1, spot := some 1 }) 1 (n - i)]) k) true (some 1)])), (aAppend Try.prog ([AObj.row (rowOf (fun i => [Value.float .f64 (x i)]) M) false opn, AObj.row (rowOf (fun i => [Value.complex .f64 (a i) (b i)]) n) true (some 1), AObj.row (rowOf (fun i => [Value.complex .f64 (u i) (v i)]) n) true none, AObj.row (rowOf (fun i => [Value.slice (some { block := 2, off := 0 + i * 1, spot := some 1 }) 1 (n - i)]) k) true (some 1), AObj.row [Value.slice (some { block := 2, off := 0 + k * 1, spot := some 1 }) (k + 1 - k) (n - k)] true none]) [101, 101] ([Value.slice (some ⟨3, 0, some 1⟩) k k, Value.slice (some { block := [AObj.row (rowOf (fun i => [Value.float .f64 (x i)]) M) false opn, AObj.row (rowOf (fun i => [Value.complex .f64 (a i) (b i)]) n) true (some 1), AObj.row (rowOf (fun i => [Value.complex .f64 (u i) (v i)]) n) true none, AObj.row (rowOf (fun i => [Value.slice (some { block := 2, off := 0 + i * 1, spot := some 1 }) 1 (n - i)]) k) true (some 1)].length, off := 0, spot := some 1 }) 1 1]) = some (Value.slice (some ⟨5, 0, some 1⟩) (k + 1) (k + 1), [AObj.row (rowOf (fun i => [Value.float .f64 (x i)]) M) false opn, AObj.row (rowOf (fun i => [Value.complex .f64 (a i) (b i)]) n) true (some 1), AObj.row (rowOf (fun i => [Value.complex .f64 (u i) (v i)]) n) true none, AObj.dead, AObj.row [Value.slice (some { block := 2, off := 0 + k * 1, spot := some 1 }) 1 (n - k)] true none, AObj.row (rowOf (fun i => [Value.slice (some { block := 2, off := 0 + i * 1, spot := some 1 }) 1 (n - i)]) (k + 1)) true (some 1)])), (wF IntKind.i64 (iN k + 1) ([AObj.row (rowOf (fun i => [Value.float .f64 (x i)]) M) false opn, AObj.row (rowOf (fun i => [Value.complex .f64 (a i) (b i)]) n) true (some 1), AObj.row (rowOf (fun i => [Value.complex .f64 (u i) (v i)]) n) true none, AObj.dead, AObj.row [Value.slice (some { block := 2, off := 0 + k * 1, spot := some 1 }) 1 (n - k)] true none, AObj.row (rowOf (fun i => [Value.slice (some { block := 2, off := 0 + i * 1, spot := some 1 }) 1 (n - i)]) (k + 1)) true (some 1)]) = some (.int IntKind.i64 (iN (k + 1)), [AObj.row (rowOf (fun i => [Value.float .f64 (x i)]) M) false opn, AObj.row (rowOf (fun i => [Value.complex .f64 (a i) (b i)]) n) true (some 1), AObj.row (rowOf (fun i => [Value.complex .f64 (u i) (v i)]) n) true none, AObj.dead, AObj.row [Value.slice (some { block := 2, off := 0 + k * 1, spot := some 1 }) 1 (n - k)] true none, AObj.row (rowOf (fun i => [Value.slice (some { block := 2, off := 0 + i * 1, spot := some 1 }) 1 (n - i)]) (k + 1)) true (some 1)]))]) (L := 6) 3 df1_okX (by kernel_rfl) ⟨bP_of (fun x => x) (show (decide (iN k < iN n)) = true from decide_eq_true (by (try simp only [decide_eq_true_eq, decide_eq_false_iff_not] at *); (try simp only [iN_eq, Int.ofNat_eq_natCast] at *); try omega)), ⟨wF_ok _ (by (try simp only [decide_eq_true_eq, decide_eq_false_iff_not] at *); (try simp only [iN_eq, Int.ofNat_eq_natCast] at *); try omega) (by (try simp only [decide_eq_true_eq, decide_eq_false_iff_not] at *); (try simp only [iN_eq, Int.ofNat_eq_natCast] at *); try omega), ⟨ldF_ok (slice_op (e := 27) (z := 1) (l := k) (h := k + 1) (by kernel_rfl) (by kernel_rfl) (bnd_int (by (try simp only [decide_eq_true_eq, decide_eq_false_iff_not] at *); (try simp only [iN_eq, Int.ofNat_eq_natCast] at *); try omega)) (bnd_int (by (try simp only [decide_eq_true_eq, decide_eq_false_iff_not] at *); (try simp only [iN_eq, Int.ofNat_eq_natCast] at *); try omega)) (by (try simp only [decide_eq_true_eq, decide_eq_false_iff_not] at *); (try simp only [iN_eq, Int.ofNat_eq_natCast] at *); try omega) (by (try simp only [decide_eq_true_eq, decide_eq_false_iff_not] at *); (try simp only [iN_eq, Int.ofNat_eq_natCast] at *); try omega) (by (try simp only [decide_eq_true_eq, decide_eq_false_iff_not] at *); (try simp only [iN_eq, Int.ofNat_eq_natCast] at *); try omega) (by (try simp only [decide_eq_true_eq, decide_eq_false_iff_not] at *); (try simp only [iN_eq, Int.ofNat_eq_natCast] at *); try omega)), ⟨s0, ⟨wF_ok _ (by (try simp only [decide_eq_true_eq, decide_eq_false_iff_not] at *); (try simp only [iN_eq, Int.ofNat_eq_natCast] at *); try omega) (by (try simp only [decide_eq_true_eq, decide_eq_false_iff_not] at *); (try simp only [iN_eq, Int.ofNat_eq_natCast] at *); try omega), trivial⟩⟩⟩⟩⟩ hst (by kernel_rfl) (by kernel_rfl) (by kernel_rfl) (by decide) (by kernel_rfl) ⟨by first | exact stay_plain (rowOf_all (fun _ => rfl) _) | exact stay_closed (rowOf_all (fun _ => rfl) _), ⟨by first | exact stay_plain (rowOf_all (fun _ => rfl) _) | exact stay_closed (rowOf_all (fun _ => rfl) _), ⟨by first | exact stay_plain (rowOf_all (fun _ => rfl) _) | exact stay_closed (rowOf_all (fun _ => rfl) _), trivial⟩⟩⟩
theorem dfE_okX : codeOkX (dLDf) [] (loopOf Try.f30 2) = true := by kernel_rfl
theorem dfE_p0 (opn : Option Nat) (x : Nat → Nat) (M : Nat) (n : Nat) (u : Nat → Nat) (v : Nat → Nat) (a : Nat → Nat) (b : Nat → Nat) (h0 : 0 < n) (hn : n ≤ 64) (m : Nat) (cap : Nat) (d : Nat) (ms : Nat) (t : Nat) (hst : Stood false ([.row (rowOf (fun i => [.float .f64 (x i)]) M) false opn])) : Sim (dLDf) 3 (loopOf Try.f30 2) ((dfF n m cap d ms t (.slice (some ⟨3, 0, some 1⟩) n n) n)) ([.row (rowOf (fun i => [.float .f64 (x i)]) M) false opn, .row (rowOf (fun i => [.complex .f64 (a i) (b i)]) n) true (some 1), .row (rowOf (fun i => [.complex .f64 (u i) (v i)]) n) true none, .row (rowOf (fun i => [.slice (some ⟨2, 0 + i * 1, some 1⟩) 1 (n - i)]) n) true (some 1)]) (.exit 4) ([Value.int .i64 (iN n), Value.float .f64 d, Value.slice (some ⟨0, 0, some 1⟩) m cap, undef, undef, undef, Value.bool false, Value.slice (some ⟨1, 0, some 1⟩) n n, undef, Value.float .f64 ms, undef, Value.int .i64 (iN t), Value.slice (some ⟨2, 0, some 1⟩) n n, Value.int .i64 (Int.ofNat 0), Value.slice (some ⟨3, 0, some 1⟩) n n, Value.int .i64 (iN n), undef, undef, undef, undef, undef, undef, undef, undef, undef, undef, undef, undef, undef, undef, undef, undef, undef, undef, undef, undef, undef, undef, undef, undef, undef, undef, undef, undef, undef, undef, undef, undef, undef, undef, undef, undef, undef, undef, undef, undef, undef, undef, undef, undef, undef, undef, undef, undef, undef, undef, undef, undef, undef, undef, undef, undef, undef, undef, undef, undef, undef, undef, undef, undef, undef, undef, undef, undef, undef, undef, undef, undef, undef, undef, undef, undef, undef, undef, undef, undef, undef, undef, undef, undef, undef, undef, undef, undef, undef, undef, undef, undef]) ([AObj.row (rowOf (fun i => [Value.float .f64 (x i)]) M) false opn, AObj.row (rowOf (fun i => [Value.complex .f64 (a i) (b i)]) n) true (some 1), AObj.row (rowOf (fun i => [Value.complex .f64 (u i) (v i)]) n) true none, AObj.row (rowOf (fun i => [Value.slice (some { block := 2, off := 0 + i * 1, spot := some 1 }) 1 (n - i)]) n) true (some 1)]) := Sim.of_roundC (C := dLDf) dLDf_ok (X := []) (n := 3) (orc := [(8, Item.br false)]) (ks := [0, 1, 2, 3]) (mask := [true, true, true, false, false, false, true, true, false, true, false, true, true, true, true, true, false, false, false, false, false, false, false, false, false, false, false, false, false, false, false, false, false, false, false, false, false, false, false, false, false, false, false, false, false, false, false, false, false, false, false, false, false, false, false, false, false, false, false, false, false, false, false, false, false, false, false, false, false, false, false, false, false, false, false, false, false, false, false, false, false, false, false, false, false, false, false, false, false, false, false, false, false, false, false, false, false, false, false, false, false, false, false, false, false, false, false, false]) (ps := [(some (decide (iN n < iN n)) = some false)]) (L := 4) 3 dfE_okX (by kernel_rfl) ⟨bP_of (fun x => x) (show (decide (iN n < iN n)) = false from decide_eq_false (by (try simp only [decide_eq_true_eq, decide_eq_false_iff_not] at *); (try simp only [iN_eq, Int.ofNat_eq_natCast] at *); try omega)), trivial⟩ hst (by kernel_rfl) (by kernel_rfl) (by kernel_rfl) (by decide) (by kernel_rfl) ⟨by first | exact stay_plain (rowOf_all (fun _ => rfl) _) | exact stay_closed (rowOf_all (fun _ => rfl) _), ⟨by first | exact stay_plain (rowOf_all (fun _ => rfl) _) | exact stay_closed (rowOf_all (fun _ => rfl) _), ⟨by first | exact stay_plain (rowOf_all (fun _ => rfl) _) | exact stay_closed (rowOf_all (fun _ => rfl) _), trivial⟩⟩⟩
end Go.Lk
end

section
/- Sum, of any row of complex numbers. -/
namespace Go.Lk
open Go.Proofs
set_option maxRecDepth 100000
set_option maxHeartbeats 0
set_option linter.unusedVariables false
set_option linter.unusedSimpArgs false
noncomputable def LSu : Lib := ⟨Try.prog, false, t1, [], []⟩
theorem LSu_fp : ∀ e, e ∈ LSu.pures → Try.prog.funcs[e.1]? = some e.2 := fs_nil
theorem LSu_fh : ∀ e, e ∈ LSu.heaps → Try.prog.funcs[e.1]? = some e.2.2 := gs_nil
theorem LSu_p1 (gp : Nat → PureFn) (g : Nat → HeapFn) : (LSu.pures.all fun e => fnOk (LSu.mk' gp g) e.2) = true := by kernel_rfl
theorem LSu_h1 (gp : Nat → PureFn) (g : Nat → HeapFn) : (LSu.heaps.all fun e => fnOk (LSu.mk' gp g) e.2.2 && (!e.2.1 || fnRo (LSu.mk' gp g) e.2.2)) = true := by kernel_rfl
theorem LSu_ok : LSu.Ok := ⟨t1_ok, mixed, LSu_fp, LSu_fh, LSu_p1, LSu_h1⟩
noncomputable def dLSu : Cfg := LSu.cfg 100 4
theorem dLSu_ok : dLSu.Ok := LSu_ok.cfg 100 4

/-- The sum of the first k + 1. -/
def smA (a : Nat → Nat) : Nat → Nat
  | 0 => a 0
  | k + 1 => fadd (smA a k) (a (k + 1))
def suFr (a b : Nat → Nat) (m cap k : Nat) : List Value := [.slice (some ⟨0, 0, some 1⟩) m cap, undef, undef, .complex .f64 (smA a k) (smA b k)] ++ List.replicate 9 undef ++ [.slice (some ⟨0, 0 + 1 * 1, some 1⟩) (m - 1) (cap - 1), .int .i64 (iN (m - 1)), .int .i64 (iN k)] ++ List.replicate 8 undef
theorem suR_okX : codeOkX (dLSu) [] (loopOf Try.f146 0) = true := by kernel_rfl
theorem suR_p0 (opn : Option Nat) (a : Nat → Nat) (b : Nat → Nat) (M : Nat) (m : Nat) (cap : Nat) (hm : m ≤ M) (hM : m ≤ 65536) (hc : m ≤ cap) (h0 : 0 < m) (k : Nat) (hk : k < m - 1) (hst : Stood false ([.row (rowOf (fun i => [.complex .f64 (a i) (b i)]) M) false opn])) : Sim (dLSu) 1 (loopOf Try.f146 0) ((suFr a b m cap k)) ([.row (rowOf (fun i => [.complex .f64 (a i) (b i)]) M) false opn]) .normal ([Value.slice (some ⟨0, 0, some 1⟩) m cap, undef, undef, Value.complex .f64 (fadd (smA a k) (a (k + 1))) (fadd (smA b k) (b (k + 1))), undef, undef, undef, undef, undef, undef, undef, undef, undef, Value.slice (some ⟨0, 1, some 1⟩) (m - 1) (cap - 1), Value.int .i64 (iN (m - 1)), Value.int .i64 (iN (k + 1)), undef, undef, undef, undef, undef, undef, undef, undef]) ([AObj.row (rowOf (fun i => [Value.complex .f64 (a i) (b i)]) M) false opn]) := Sim.of_roundQ (C := dLSu) dLSu_ok (X := []) (n := 3) (orc := [(2, Item.br true), (4, Item.res (Value.pointer (some { block := 0, off := 1 + k * 1 }))), (6, Item.res (Value.complex .f64 (a (k + 1)) (b (k + 1)))), (18, Item.res (Value.int .i64 (iN (k + 1))))]) (ks := [0]) (mask := [true, false, false, true, false, false, false, false, false, false, false, false, false, true, true, true, false, false, false, false, false, false, false, false]) (ps := [(some (decide (iN k < iN (m - 1))) = some true), (ixF (Value.pointer (some { block := 0, off := 1 + k * 1 })) ([AObj.row (rowOf (fun i => [Value.complex .f64 (a i) (b i)]) M) false opn]) (iN k) (m - 1) = some (Value.pointer (some { block := 0, off := 1 + k * 1 }), [AObj.row (rowOf (fun i => [Value.complex .f64 (a i) (b i)]) M) false opn])), (ldF (aLoad Try.prog ([AObj.row (rowOf (fun i => [Value.complex .f64 (a i) (b i)]) M) false opn]) 27 (.pointer (some ⟨0, 1 + k * 1, none⟩))) ([AObj.row (rowOf (fun i => [Value.complex .f64 (a i) (b i)]) M) false opn]) = some (Value.complex .f64 (a (k + 1)) (b (k + 1)), [AObj.row (rowOf (fun i => [Value.complex .f64 (a i) (b i)]) M) false opn])), (wF IntKind.i64 (iN k + 1) ([AObj.row (rowOf (fun i => [Value.complex .f64 (a i) (b i)]) M) false opn]) = some (.int IntKind.i64 (iN (k + 1)), [AObj.row (rowOf (fun i => [Value.complex .f64 (a i) (b i)]) M) false opn]))]) (L := 1) 1 suR_okX (by kernel_rfl) ⟨bP_of (fun x => x) (show (decide (iN k < iN (m - 1))) = true from decide_eq_true (by (try simp only [decide_eq_true_eq, decide_eq_false_iff_not] at *); (try simp only [iN_eq, Int.ofNat_eq_natCast] at *); try omega)), ⟨ixF_ok _ _ (by (try simp only [decide_eq_true_eq, decide_eq_false_iff_not] at *); (try simp only [iN_eq, Int.ofNat_eq_natCast] at *); try omega), ⟨ldF_ok (load_one (k := k + 1) (n := M) (g := fun i => ((fun i => [Value.complex .f64 (a i) (b i)]) i).getD 0 undef) rfl (by kernel_rfl) (by omega) (by (try simp only [decide_eq_true_eq, decide_eq_false_iff_not] at *); (try simp only [iN_eq, Int.ofNat_eq_natCast] at *); try omega)), ⟨wF_ok _ (by (try simp only [decide_eq_true_eq, decide_eq_false_iff_not] at *); (try simp only [iN_eq, Int.ofNat_eq_natCast] at *); try omega) (by (try simp only [decide_eq_true_eq, decide_eq_false_iff_not] at *); (try simp only [iN_eq, Int.ofNat_eq_natCast] at *); try omega), trivial⟩⟩⟩⟩ hst (by kernel_rfl) (by kernel_rfl) (by kernel_rfl) (by decide) (by kernel_rfl) trivial
theorem suE_okX : codeOkX (dLSu) [] (loopOf Try.f146 0) = true := by kernel_rfl
theorem suE_p0 (opn : Option Nat) (a : Nat → Nat) (b : Nat → Nat) (M : Nat) (m : Nat) (cap : Nat) (hm : m ≤ M) (hM : m ≤ 65536) (hc : m ≤ cap) (h0 : 0 < m) (hst : Stood false ([.row (rowOf (fun i => [.complex .f64 (a i) (b i)]) M) false opn])) : Sim (dLSu) 1 (loopOf Try.f146 0) ((suFr a b m cap (m - 1))) ([.row (rowOf (fun i => [.complex .f64 (a i) (b i)]) M) false opn]) (.exit 0) ([Value.slice (some ⟨0, 0, some 1⟩) m cap, undef, undef, Value.complex .f64 (smA a (m - 1)) (smA b (m - 1)), undef, undef, undef, undef, undef, undef, undef, undef, undef, Value.slice (some ⟨0, 1, some 1⟩) (m - 1) (cap - 1), Value.int .i64 (iN (m - 1)), Value.int .i64 (iN (m - 1)), undef, undef, undef, undef, undef, undef, undef, undef]) ([AObj.row (rowOf (fun i => [Value.complex .f64 (a i) (b i)]) M) false opn]) := Sim.of_roundQ (C := dLSu) dLSu_ok (X := []) (n := 3) (orc := [(2, Item.br false)]) (ks := [0]) (mask := [true, false, false, true, false, false, false, false, false, false, false, false, false, true, true, true, false, false, false, false, false, false, false, false]) (ps := [(some (decide (iN (m - 1) < iN (m - 1))) = some false)]) (L := 1) 1 suE_okX (by kernel_rfl) ⟨bP_of (fun x => x) (show (decide (iN (m - 1) < iN (m - 1))) = false from decide_eq_false (by (try simp only [decide_eq_true_eq, decide_eq_false_iff_not] at *); (try simp only [iN_eq, Int.ofNat_eq_natCast] at *); try omega)), trivial⟩ hst (by kernel_rfl) (by kernel_rfl) (by kernel_rfl) (by decide) (by kernel_rfl) trivial
theorem suA_fok : fnOkX (dLSu) [] Try.f146 = true := by kernel_rfl
theorem suA_p0 (opn : Option Nat) (a : Nat → Nat) (b : Nat → Nat) (M : Nat) (m : Nat) (cap : Nat) (hm : m ≤ M) (hM : m ≤ 65536) (hc : m ≤ cap) (h0 : 0 < m) (he : (iN m == Int.ofNat 0) = false) (l0 : Stood false ([AObj.row (rowOf (fun i => [Value.complex .f64 (a i) (b i)]) M) false opn]) → Sim (dLSu) 1 (.loop (loopOf Try.f146 0)) ([Value.slice (some ⟨0, 0, some 1⟩) m cap, undef, Value.complex .f64 0 0, Value.complex .f64 (a 0) (b 0), undef, undef, Value.slice (some ⟨0, 0, some 1⟩) m cap, Value.int .i64 (iN m), Value.bool (iN m == Int.ofNat 0), Value.slice (some ⟨0, 0, some 1⟩) m cap, Value.pointer (some { block := 0, off := 0 + (Int.ofNat 0).toNat * 1 }), Value.complex .f64 (a 0) (b 0), Value.slice (some ⟨0, 0, some 1⟩) m cap, Value.slice (some { block := 0, off := 0 + 1 * 1, spot := some 1 }) (m - 1) (cap - 1), Value.int .i64 (iN (m - 1)), Value.int .i64 (Int.ofNat 0), undef, undef, undef, undef, undef, undef, undef, undef]) ([AObj.row (rowOf (fun i => [Value.complex .f64 (a i) (b i)]) M) false opn]) (Exit.exit 0) ([Value.slice (some ⟨0, 0, some 1⟩) m cap, undef, undef, Value.complex .f64 (smA a (m - 1)) (smA b (m - 1)), undef, undef, undef, undef, undef, undef, undef, undef, undef, Value.slice (some ⟨0, 1, some 1⟩) (m - 1) (cap - 1), Value.int .i64 (iN (m - 1)), Value.int .i64 (iN (m - 1)), undef, undef, undef, undef, undef, undef, undef, undef]) ([AObj.row (rowOf (fun i => [Value.complex .f64 (a i) (b i)]) M) false opn])) : CallR Try.prog false 146 ([Value.slice (some ⟨0, 0, some 1⟩) m cap]) ([AObj.row (rowOf (fun i => [Value.complex .f64 (a i) (b i)]) M) false opn]) (Value.complex .f64 (smA a (m - 1)) (smA b (m - 1))) ([AObj.row (rowOf (fun i => [Value.complex .f64 (a i) (b i)]) M) false opn]) := CallR.of_DOXs (C := dLSu) dLSu_ok (X := []) Try.func146 suA_fok (n := 3) (orc := [(8, Item.br false), (12, Item.res (Value.pointer (some { block := 0, off := 0 + (Int.ofNat 0).toNat * 1 }))), (14, Item.res (Value.complex .f64 (a 0) (b 0))), (20, Item.eff (Value.slice (some { block := 0, off := 0 + 1 * 1, spot := some 1 }) (m - 1) (cap - 1)) [AObj.row (rowOf (fun i => [Value.complex .f64 (a i) (b i)]) M) false opn]), (25, Item.loop (Exit.exit 0) (suFr a b m cap (m - 1)) [AObj.row (rowOf (fun i => [Value.complex .f64 (a i) (b i)]) M) false opn])]) (ps := [(bP (iN m == Int.ofNat 0) false), (ixF (Value.pointer (some { block := 0, off := 0 + (Int.ofNat 0).toNat * 1 })) ([AObj.row (rowOf (fun i => [Value.complex .f64 (a i) (b i)]) M) false opn]) (Int.ofNat 0) (m) = some (Value.pointer (some { block := 0, off := 0 + (Int.ofNat 0).toNat * 1 }), [AObj.row (rowOf (fun i => [Value.complex .f64 (a i) (b i)]) M) false opn])), (ldF (aLoad Try.prog ([AObj.row (rowOf (fun i => [Value.complex .f64 (a i) (b i)]) M) false opn]) 27 (.pointer (some ⟨0, 0, none⟩))) ([AObj.row (rowOf (fun i => [Value.complex .f64 (a i) (b i)]) M) false opn]) = some (Value.complex .f64 (a 0) (b 0), [AObj.row (rowOf (fun i => [Value.complex .f64 (a i) (b i)]) M) false opn])), (ldF (aSlice Try.prog 66 (Value.slice (some ⟨0, 0, some 1⟩) m cap) (some (Value.int .i64 (iN 1))) (none) (none)) ([AObj.row (rowOf (fun i => [Value.complex .f64 (a i) (b i)]) M) false opn]) = some (Value.slice (some { block := 0, off := 0 + 1 * 1, spot := some 1 }) (m - 1) (cap - 1), [AObj.row (rowOf (fun i => [Value.complex .f64 (a i) (b i)]) M) false opn])), (Sim (dLSu) 1 (.loop (loopOf Try.f146 0)) ([Value.slice (some ⟨0, 0, some 1⟩) m cap, undef, Value.complex .f64 0 0, Value.complex .f64 (a 0) (b 0), undef, undef, Value.slice (some ⟨0, 0, some 1⟩) m cap, Value.int .i64 (iN m), Value.bool (iN m == Int.ofNat 0), Value.slice (some ⟨0, 0, some 1⟩) m cap, Value.pointer (some { block := 0, off := 0 + (Int.ofNat 0).toNat * 1 }), Value.complex .f64 (a 0) (b 0), Value.slice (some ⟨0, 0, some 1⟩) m cap, Value.slice (some { block := 0, off := 0 + 1 * 1, spot := some 1 }) (m - 1) (cap - 1), Value.int .i64 (iN (m - 1)), Value.int .i64 (Int.ofNat 0), undef, undef, undef, undef, undef, undef, undef, undef]) ([AObj.row (rowOf (fun i => [Value.complex .f64 (a i) (b i)]) M) false opn]) (Exit.exit 0) ([Value.slice (some ⟨0, 0, some 1⟩) m cap, undef, undef, Value.complex .f64 (smA a (m - 1)) (smA b (m - 1)), undef, undef, undef, undef, undef, undef, undef, undef, undef, Value.slice (some ⟨0, 1, some 1⟩) (m - 1) (cap - 1), Value.int .i64 (iN (m - 1)), Value.int .i64 (iN (m - 1)), undef, undef, undef, undef, undef, undef, undef, undef]) ([AObj.row (rowOf (fun i => [Value.complex .f64 (a i) (b i)]) M) false opn])), (List.length (α := AObj) ([AObj.row (rowOf (fun i => [Value.complex .f64 (a i) (b i)]) M) false opn]) ≤ List.length ([AObj.row (rowOf (fun i => [Value.complex .f64 (a i) (b i)]) M) false opn])), (Lk.Exit.isG (Exit.exit 0) = false)]) (by kernel_rfl) (fun hst => ⟨bP_of (fun x => x) he, ⟨ixF_ok _ _ (by (try simp only [decide_eq_true_eq, decide_eq_false_iff_not] at *); (try simp only [iN_eq, Int.ofNat_eq_natCast] at *); try omega), ⟨ldF_ok (load_one (k := 0) (n := M) (g := fun i => ((fun i => [Value.complex .f64 (a i) (b i)]) i).getD 0 undef) rfl (by kernel_rfl) (by omega) (by (try simp only [decide_eq_true_eq, decide_eq_false_iff_not] at *); (try simp only [iN_eq, Int.ofNat_eq_natCast] at *); try omega)), ⟨ldF_ok (slice_op (e := 27) (z := 1) (l := 1) (h := m) (by kernel_rfl) (by kernel_rfl) (bnd_int (by (try simp only [decide_eq_true_eq, decide_eq_false_iff_not] at *); (try simp only [iN_eq, Int.ofNat_eq_natCast] at *); try omega)) (bnd_no _ _) (by (try simp only [decide_eq_true_eq, decide_eq_false_iff_not] at *); (try simp only [iN_eq, Int.ofNat_eq_natCast] at *); try omega) (by (try simp only [decide_eq_true_eq, decide_eq_false_iff_not] at *); (try simp only [iN_eq, Int.ofNat_eq_natCast] at *); try omega) (by (try simp only [decide_eq_true_eq, decide_eq_false_iff_not] at *); (try simp only [iN_eq, Int.ofNat_eq_natCast] at *); try omega) (by (try simp only [decide_eq_true_eq, decide_eq_false_iff_not] at *); (try simp only [iN_eq, Int.ofNat_eq_natCast] at *); try omega)), ⟨l0 hst, Nat.le_of_ble_eq_true (by kernel_rfl), rfl, trivial⟩⟩⟩⟩⟩)
theorem suZ_fok : fnOkX (dLSu) [] Try.f146 = true := by kernel_rfl
theorem suZ_p0 (opn : Option Nat) (a : Nat → Nat) (b : Nat → Nat) (M : Nat) (cap : Nat) : CallR Try.prog false 146 ([Value.slice (some ⟨0, 0, some 1⟩) 0 cap]) ([AObj.row (rowOf (fun i => [Value.complex .f64 (a i) (b i)]) M) false opn]) (Value.complex .f64 0 0) ([AObj.row (rowOf (fun i => [Value.complex .f64 (a i) (b i)]) M) false opn]) := CallR.of_DOXs (C := dLSu) dLSu_ok (X := []) Try.func146 suZ_fok (n := 3) (orc := []) (ps := []) (by kernel_rfl) (fun hst => trivial)
/-! ### Rows of complex numbers -/
def isCo : Value → Bool | .complex .f64 _ _ => true | _ => false
def reC (vs : List Value) (i : Nat) : Nat := match vs[i]? with | some (.complex .f64 a _) => a | _ => 0
def imC (vs : List Value) (i : Nat) : Nat := match vs[i]? with | some (.complex .f64 _ b) => b | _ => 0
theorem isCo_eq {v : Value} (h : isCo v = true) : ∃ a b, v = .complex .f64 a b := by
  unfold isCo at h
  split at h
  · exact ⟨_, _, rfl⟩
  · cases h
theorem coRow {vs : List Value} (h : vs.all isCo = true) : rowOf (fun i => [.complex .f64 (reC vs i) (imC vs i)]) vs.length = vs := by
  have hl := rowOf_len (f := fun i => [Value.complex .f64 (reC vs i) (imC vs i)]) (s := 1) (fun _ => rfl) vs.length
  apply List.ext_getElem?
  intro j
  rcases Nat.lt_or_ge j vs.length with hj | hj
  · have h3 := rowOf_at (f := fun i => [Value.complex .f64 (reC vs i) (imC vs i)]) (s := 1) (fun _ => rfl) (k := j) (n := vs.length) hj
    have h3 := congrArg (fun l => l[0]?) h3
    simp only [List.getElem?_take, List.getElem?_drop, Nat.mul_one, Nat.add_zero] at h3
    simp only [Nat.lt_one_iff, if_true, List.getElem?_cons_zero] at h3
    rw [h3]
    have hm : vs[j]? = some vs[j] := List.getElem?_eq_getElem hj
    obtain ⟨a, b, e⟩ := isCo_eq (List.all_eq_true.1 h vs[j] (List.getElem_mem hj))
    rw [e] at hm
    simp only [reC, imC, hm]
  · rw [List.getElem?_eq_none hj, List.getElem?_eq_none (by rw [hl]; omega)]
theorem isCo_plain {vs : List Value} (h : vs.all isCo = true) : vs.all plain = true := by
  rw [List.all_eq_true] at h ⊢
  intro v hv
  obtain ⟨a, b, rfl⟩ := isCo_eq (h v hv)
  rfl
theorem smA_congr {a b : Nat → Nat} : ∀ {k : Nat}, (∀ i, i ≤ k → a i = b i) → smA a k = smA b k
  | 0, h => h 0 (Nat.le_refl _)
  | k + 1, h => by
    show fadd (smA a k) (a (k + 1)) = fadd (smA b k) (b (k + 1))
    rw [smA_congr (fun i hi => h i (by omega)), h (k + 1) (Nat.le_refl _)]
/-- The sum of m, as Sum tells it. -/
def sumC (a : Nat → Nat) (m : Nat) : Nat := bif Nat.beq m 0 then 0 else smA a (m - 1)
theorem sumC_congr {a b : Nat → Nat} {m : Nat} (h : ∀ i, i < m → a i = b i) : sumC a m = sumC b m := by
  unfold sumC
  cases hm : Nat.beq m 0
  · have : m ≠ 0 := by rintro rfl; cases hm
    rw [cond_false, cond_false, smA_congr (fun i hi => h i (by omega))]
  · rfl
def sSum : HeapFn
  | [.slice (some ⟨b, 0, some 1⟩) m cap], σ =>
    match σ[b]? with
    | some (.row vs _ _) => bif vs.all isCo && (Nat.ble m vs.length && (Nat.ble m 65536 && Nat.ble m cap)) then some (.complex .f64 (sumC (reC vs) m) (sumC (imC vs) m), σ) else none
    | _ => none
  | _, _ => none
theorem sum_loop (opn : Option Nat) (a b : Nat → Nat) (M m cap : Nat) (hm : m ≤ M) (hM : m ≤ 65536) (hc : m ≤ cap) (h0 : 0 < m) (hst : Stood false [.row (rowOf (fun i => [.complex .f64 (a i) (b i)]) M) false opn]) :
    Sim dLSu 1 (.loop (loopOf Try.f146 0)) (suFr a b m cap 0) [.row (rowOf (fun i => [.complex .f64 (a i) (b i)]) M) false opn] (.exit 0) (suFr a b m cap (m - 1)) [.row (rowOf (fun i => [.complex .f64 (a i) (b i)]) M) false opn] :=
  Sim.loop (fun k => (suFr a b m cap k, [.row (rowOf (fun i => [.complex .f64 (a i) (b i)]) M) false opn])) (m - 1)
    (fun k hk => (suR_p0 opn a b M m cap hm hM hc h0 k hk hst).cast (by kernel_rfl) (by kernel_rfl) (by kernel_rfl) (by kernel_rfl))
    ((suE_p0 opn a b M m cap hm hM hc h0 hst).cast (by kernel_rfl) (by kernel_rfl) (by kernel_rfl) (by kernel_rfl)) rfl
theorem sum_small (opn : Option Nat) (a b : Nat → Nat) (M m cap : Nat) (hm : m ≤ M) (hM : m ≤ 65536) (hc : m ≤ cap) : ∃ σ', CallR Try.prog false 146 [.slice (some ⟨0, 0, some 1⟩) m cap] [.row (rowOf (fun i => [.complex .f64 (a i) (b i)]) M) false opn] (.complex .f64 (sumC a m) (sumC b m)) σ' := by
  rcases Nat.eq_zero_or_pos m with rfl | h0
  · exact ⟨_, suZ_p0 opn a b M cap⟩
  · have e : ∀ x : Nat → Nat, sumC x m = smA x (m - 1) := by
      intro x
      unfold sumC
      rw [show Nat.beq m 0 = false from by cases m with | zero => omega | succ m => rfl]
      rfl
    rw [e, e]
    exact ⟨_, suA_p0 opn a b M m cap hm hM hc h0 (by rw [iN_eq]; exact beq_false_of_ne (by show ((m : Nat) : Int) ≠ 0; omega)) (fun hst => ((sum_loop opn a b M m cap hm hM hc h0 hst).enter ([true, false, false, true] ++ List.replicate 9 false ++ [true, true, true] ++ List.replicate 8 false) (by kernel_rfl)).cast rfl rfl (by kernel_rfl) rfl)⟩
theorem sSum_ok : IsHeap Try.prog false 146 true sSum := by
  have key : ∀ (args : List Value) (σ : AHeap) (v : Value) (σ' : AHeap), sSum args σ = some (v, σ') → σ' = σ := by
    intro args σ v σ' h
    unfold sSum at h
    split at h
    · split at h
      · rename_i vs _ _ _
        cases hc : (vs.all isCo && (Nat.ble _ vs.length && (Nat.ble _ 65536 && Nat.ble _ _))) <;> rw [hc] at h <;> cases h
        rfl
      · cases h
    · cases h
  refine ⟨fun args σ v σ' h => ?_, fun _ args σ v σ' h => key args σ v σ' h, fun args σ v σ' h => by rw [key args σ v σ' h]; exact Nat.le_refl _⟩
  unfold sSum at h
  split at h
  · rename_i b m cap
    split at h
    · rename_i vs rw' opn hb
      cases hc : (vs.all isCo && (Nat.ble m vs.length && (Nat.ble m 65536 && Nat.ble m cap)))
      · rw [hc] at h; cases h
      · rw [hc] at h
        cases h
        simp only [Bool.and_eq_true] at hc
        obtain ⟨c1, c2, c3, c4⟩ := hc
        obtain ⟨σ1, hs⟩ := sum_small opn (reC vs) (imC vs) vs.length m cap (Nat.le_of_ble_eq_true c2) (Nat.le_of_ble_eq_true c3) (Nat.le_of_ble_eq_true c4)
        rw [coRow c1] at hs
        refine CallR.frameQ (r := fun k => if k = 0 then b else k + σ.length) ⟨fun k o hk => ?_, fun k hk => ?_⟩ ?_ hs rfl
        · have : k = 0 := by have := lt_of_some hk; simpa using this
          subst this
          simp only [List.getElem?_cons_zero, Option.some.injEq] at hk
          exact ⟨vs, opn, rw', hk.symm, hb, isCo_plain c1⟩
        · have hk : 1 ≤ k := hk
          have : ¬ k = 0 := by omega
          simp only [this, if_false]; omega
        · rfl
    · cases h
  · cases h
/-- At a row that is told by a function. -/
theorem sSum_row {F : Nat → List Value} {x y : Nat → Nat} {M m cap bl : Nat} {rw' : Bool} {opn : Option Nat} {σ : AHeap} (hσ : σ[bl]? = some (.row (rowOf F M) rw' opn)) (hF : ∀ i, i < M → isCo ((F i).headD undef) = true ∧ (F i).length = 1) (hl : ∀ i, (F i).length = 1) (hm : m ≤ M) (hM : m ≤ 65536) (hc : m ≤ cap)
    (hx : ∀ i, i < m → F i = [.complex .f64 (x i) (y i)]) : sSum [.slice (some ⟨bl, 0, some 1⟩) m cap] σ = some (.complex .f64 (sumC x m) (sumC y m), σ) := by
  have hget : ∀ i, i < M → (rowOf F M)[i]? = some ((F i).headD undef) := by
    intro i hi
    have h3 := rowOf_at (f := F) (s := 1) hl (k := i) (n := M) hi
    have h3 := congrArg (fun l => l[0]?) h3
    simp only [List.getElem?_take, List.getElem?_drop, Nat.mul_one, Nat.add_zero] at h3
    simp only [Nat.lt_one_iff, if_true] at h3
    rw [h3]
    have := hl i
    match hFi : F i, this with
    | [v], _ => rfl
  have hlen := rowOf_len (f := F) (s := 1) hl M
  rw [Nat.mul_one] at hlen
  have hall : (rowOf F M).all isCo = true := by
    rw [List.all_eq_true]
    intro v hv
    obtain ⟨i, hi, e⟩ := List.mem_iff_getElem.1 hv
    have h1 := hget i (by omega)
    rw [List.getElem?_eq_getElem hi] at h1
    have h2 := Option.some.inj h1
    rw [← e, h2]
    exact (hF i (by omega)).1
  unfold sSum
  simp only [hσ, hall, Nat.ble_eq_true_of_le (show m ≤ (rowOf F M).length by omega), Nat.ble_eq_true_of_le hM, Nat.ble_eq_true_of_le hc, Bool.and_self, cond_true]
  have e1 : sumC (reC (rowOf F M)) m = sumC x m := sumC_congr fun i hi => by unfold reC; rw [hget i (by omega), hx i hi]; rfl
  have e2 : sumC (imC (rowOf F M)) m = sumC y m := sumC_congr fun i hi => by unfold imC; rw [hget i (by omega), hx i hi]; rfl
  rw [e1, e2]
end Go.Lk
end

section
/- Form of one sample. -/
namespace Go.Lk
open Go.Proofs
set_option maxRecDepth 100000
set_option maxHeartbeats 0
set_option linter.unusedVariables false
set_option linter.unusedSimpArgs false
noncomputable def tbbd : Tab := (tsv.addH 146 true sSum)
theorem tbbd_ok : tbbd.Ok Try.prog false := (Tab.Ok.addH tsv_ok sSum_ok)
noncomputable def LBbd : Lib := ⟨Try.prog, false, tbbd, [], []⟩
theorem LBbd_fp : ∀ e, e ∈ LBbd.pures → Try.prog.funcs[e.1]? = some e.2 := fs_nil
theorem LBbd_fh : ∀ e, e ∈ LBbd.heaps → Try.prog.funcs[e.1]? = some e.2.2 := gs_nil
theorem LBbd_p1 (gp : Nat → PureFn) (g : Nat → HeapFn) : (LBbd.pures.all fun e => fnOk (LBbd.mk' gp g) e.2) = true := by kernel_rfl
theorem LBbd_h1 (gp : Nat → PureFn) (g : Nat → HeapFn) : (LBbd.heaps.all fun e => fnOk (LBbd.mk' gp g) e.2.2 && (!e.2.1 || fnRo (LBbd.mk' gp g) e.2.2)) = true := by kernel_rfl
theorem LBbd_ok : LBbd.Ok := ⟨tbbd_ok, mixed, LBbd_fp, LBbd_fh, LBbd_p1, LBbd_h1⟩
noncomputable def dLBbd : Cfg := LBbd.cfg 100 4
theorem dLBbd_ok : dLBbd.Ok := LBbd_ok.cfg 100 4

theorem bd4_fok : fnOkX (dLBbd) [] Try.f204 = true := by kernel_rfl
theorem bd4_p0 (opn : Option Nat) (x : Nat → Nat) (M : Nat) (n : Nat) (u : Nat → Nat) (v : Nat → Nat) (a : Nat → Nat) (b : Nat → Nat) (h0 : 0 < n) (hn : n ≤ 64) (k : Nat) (hk : k < n) : CallR Try.prog false 204 ([Value.slice (some { block := 2, off := 0 + k * 1, spot := some 1 }) 1 (n - k), Value.pointer (some ⟨4, 0, none⟩)]) ([AObj.row (rowOf (fun i => [Value.float .f64 (x i)]) M) false opn, AObj.row (rowOf (fun i => [Value.complex .f64 (a i) (b i)]) n) true (some 1), AObj.row (rowOf (fun i => [Value.complex .f64 (u i) (v i)]) n) true none, AObj.row (rowOf (fun i => [Value.slice (some { block := 2, off := 0 + i * 1, spot := some 1 }) 1 (n - i)]) n) true (some 1), AObj.row [Value.slice (some ⟨3, 0, some 1⟩) n n] true none]) (Value.bool false) ([AObj.row (rowOf (fun i => [Value.float .f64 (x i)]) M) false opn, AObj.row (rowOf (fun i => [Value.complex .f64 (a i) (b i)]) n) true (some 1), AObj.row (rowOf (fun i => [Value.complex .f64 (u i) (v i)]) n) true none, AObj.row (rowOf (fun i => [Value.slice (some { block := 2, off := 0 + i * 1, spot := some 1 }) 1 (n - i)]) n) true (some 1), AObj.row [Value.slice (some ⟨3, 0, some 1⟩) n n] true none]) := CallR.of_DOXs (C := dLBbd) dLBbd_ok (X := []) Try.func204 bd4_fok (n := 3) (orc := [(9, Item.res (Value.pointer (some { block := 3, off := 0 + (Int.ofNat 0).toNat * 1 }))), (11, Item.res (Value.slice (some ⟨2, 0, some 1⟩) 1 (n - 0)))]) (ps := [(ixF (Value.pointer (some { block := 3, off := 0 + (Int.ofNat 0).toNat * 1 })) ([AObj.row (rowOf (fun i => [Value.float .f64 (x i)]) M) false opn, AObj.row (rowOf (fun i => [Value.complex .f64 (a i) (b i)]) n) true (some 1), AObj.row (rowOf (fun i => [Value.complex .f64 (u i) (v i)]) n) true none, AObj.row (rowOf (fun i => [Value.slice (some { block := 2, off := 0 + i * 1, spot := some 1 }) 1 (n - i)]) n) true (some 1), AObj.row [Value.slice (some ⟨3, 0, some 1⟩) n n] true none]) (Int.ofNat 0) (n) = some (Value.pointer (some { block := 3, off := 0 + (Int.ofNat 0).toNat * 1 }), [AObj.row (rowOf (fun i => [Value.float .f64 (x i)]) M) false opn, AObj.row (rowOf (fun i => [Value.complex .f64 (a i) (b i)]) n) true (some 1), AObj.row (rowOf (fun i => [Value.complex .f64 (u i) (v i)]) n) true none, AObj.row (rowOf (fun i => [Value.slice (some { block := 2, off := 0 + i * 1, spot := some 1 }) 1 (n - i)]) n) true (some 1), AObj.row [Value.slice (some ⟨3, 0, some 1⟩) n n] true none])), (ldF (aLoad Try.prog ([AObj.row (rowOf (fun i => [Value.float .f64 (x i)]) M) false opn, AObj.row (rowOf (fun i => [Value.complex .f64 (a i) (b i)]) n) true (some 1), AObj.row (rowOf (fun i => [Value.complex .f64 (u i) (v i)]) n) true none, AObj.row (rowOf (fun i => [Value.slice (some { block := 2, off := 0 + i * 1, spot := some 1 }) 1 (n - i)]) n) true (some 1), AObj.row [Value.slice (some ⟨3, 0, some 1⟩) n n] true none]) 66 (.pointer (some ⟨3, 0, none⟩))) ([AObj.row (rowOf (fun i => [Value.float .f64 (x i)]) M) false opn, AObj.row (rowOf (fun i => [Value.complex .f64 (a i) (b i)]) n) true (some 1), AObj.row (rowOf (fun i => [Value.complex .f64 (u i) (v i)]) n) true none, AObj.row (rowOf (fun i => [Value.slice (some { block := 2, off := 0 + i * 1, spot := some 1 }) 1 (n - i)]) n) true (some 1), AObj.row [Value.slice (some ⟨3, 0, some 1⟩) n n] true none]) = some (Value.slice (some ⟨2, 0, some 1⟩) 1 (n - 0), [AObj.row (rowOf (fun i => [Value.float .f64 (x i)]) M) false opn, AObj.row (rowOf (fun i => [Value.complex .f64 (a i) (b i)]) n) true (some 1), AObj.row (rowOf (fun i => [Value.complex .f64 (u i) (v i)]) n) true none, AObj.row (rowOf (fun i => [Value.slice (some { block := 2, off := 0 + i * 1, spot := some 1 }) 1 (n - i)]) n) true (some 1), AObj.row [Value.slice (some ⟨3, 0, some 1⟩) n n] true none]))]) (by kernel_rfl) (fun hst => ⟨ixF_ok _ _ (by (try simp only [decide_eq_true_eq, decide_eq_false_iff_not] at *); (try simp only [iN_eq, Int.ofNat_eq_natCast] at *); try omega), ⟨ldF_ok (load_one (k := 0) (n := n) (g := fun i => ((fun i => [Value.slice (some { block := 2, off := 0 + i * 1, spot := some 1 }) 1 (n - i)]) i).getD 0 undef) rfl (by kernel_rfl) (by omega) (by (try simp only [decide_eq_true_eq, decide_eq_false_iff_not] at *); (try simp only [iN_eq, Int.ofNat_eq_natCast] at *); try omega)), trivial⟩⟩)
end Go.Lk
end

section
/- Form of one sample. -/
namespace Go.Lk
open Go.Proofs
set_option maxRecDepth 100000
set_option maxHeartbeats 0
set_option linter.unusedVariables false
set_option linter.unusedSimpArgs false
-- closed rows
-- ARGS g204 [.slice (some ⟨2, 0 + k * 1, some 1⟩) 1 (n - k), .pointer (some ⟨4, 0, none⟩)]
noncomputable def Lbdb (g204 : HeapFn) : Lib := ⟨Try.prog, false, (tbbd.addH 204 false g204), [], []⟩
theorem Lbdb_ok (g204 : HeapFn) (hg204 : IsHeap Try.prog false 204 false g204) : (Lbdb g204).Ok := ⟨(Tab.Ok.addH tbbd_ok hg204), mixed, fs_nil, gs_nil, fun _ _ => by kernel_rfl, fun _ _ => by kernel_rfl⟩
noncomputable def dbdb (g204 : HeapFn) : Cfg := (Lbdb g204).cfg 100 4
theorem dbdb_ok (g204 : HeapFn) (hg204 : IsHeap Try.prog false 204 false g204) : (dbdb g204).Ok := (Lbdb_ok g204 hg204).cfg 100 4
theorem bd5_okX {g204 : HeapFn} : codeOkX ((dbdb g204)) [] (loopOf Try.f214 0) = true := by kernel_rfl
theorem bd5_p0 (g204 : HeapFn) (hg204 : IsHeap Try.prog false 204 false g204) (opn : Option Nat) (x : Nat → Nat) (M : Nat) (n : Nat) (u : Nat → Nat) (v : Nat → Nat) (a : Nat → Nat) (b : Nat → Nat) (h0 : 0 < n) (hn : n ≤ 64) (k : Nat) (hk : k < n) (s0 : g204 [.slice (some ⟨2, 0 + k * 1, some 1⟩) 1 (n - k), .pointer (some ⟨4, 0, none⟩)] [AObj.row (rowOf (fun i => [Value.float .f64 (x i)]) M) false opn, AObj.row (rowOf (fun i => [Value.complex .f64 (a i) (b i)]) n) true (some 1), AObj.row (rowOf (fun i => [Value.complex .f64 (u i) (v i)]) n) true none, AObj.row (rowOf (fun i => [Value.slice (some { block := 2, off := 0 + i * 1, spot := some 1 }) 1 (n - i)]) n) true (some 1), AObj.row [Value.slice (some ⟨3, 0, some 1⟩) n n] true none] = some (Value.bool false, [AObj.row (rowOf (fun i => [Value.float .f64 (x i)]) M) false opn, AObj.row (rowOf (fun i => [Value.complex .f64 (a i) (b i)]) n) true (some 1), AObj.row (rowOf (fun i => [Value.complex .f64 (u i) (v i)]) n) true none, AObj.row (rowOf (fun i => [Value.slice (some { block := 2, off := 0 + i * 1, spot := some 1 }) 1 (n - i)]) n) true (some 1), AObj.row [Value.slice (some ⟨3, 0, some 1⟩) n n] true none])) (hst : Stood false ([])) : Sim ((dbdb g204)) 5 (loopOf Try.f214 0) (([.slice (some ⟨3, 0, some 1⟩) n n, .func (.func 204) #[] #[.pointer (some ⟨4, 0, none⟩)], undef, undef, .int .i64 0, undef, undef, .int .i64 (iN n), .int .i64 (iN k)] ++ List.replicate 10 undef)) ([.row (rowOf (fun i => [.float .f64 (x i)]) M) false opn, .row (rowOf (fun i => [.complex .f64 (a i) (b i)]) n) true (some 1), .row (rowOf (fun i => [.complex .f64 (u i) (v i)]) n) true none, .row (rowOf (fun i => [.slice (some ⟨2, 0 + i * 1, some 1⟩) 1 (n - i)]) n) true (some 1), .row [.slice (some ⟨3, 0, some 1⟩) n n] true none]) .normal ([Value.slice (some ⟨3, 0, some 1⟩) n n, Value.func (Fn.func 204) { toList := [] } { toList := [Value.pointer (some ⟨4, 0, none⟩)] }, undef, undef, Value.int .i64 (Int.ofNat 0), undef, undef, Value.int .i64 (iN n), Value.int .i64 (iN (k + 1)), undef, undef, undef, undef, undef, undef, undef, undef, undef, undef]) ([AObj.row (rowOf (fun i => [Value.float .f64 (x i)]) M) false opn, AObj.row (rowOf (fun i => [Value.complex .f64 (a i) (b i)]) n) true (some 1), AObj.row (rowOf (fun i => [Value.complex .f64 (u i) (v i)]) n) true none, AObj.row (rowOf (fun i => [Value.slice (some { block := 2, off := 0 + i * 1, spot := some 1 }) 1 (n - i)]) n) true (some 1), AObj.row [Value.slice (some ⟨3, 0, some 1⟩) n n] true none]) := Sim.of_roundC (C := (dbdb g204)) (dbdb_ok g204 hg204) (X := []) (n := 3) (orc := [(2, Item.br true), (14, Item.res (Value.pointer (some { block := 3, off := 0 + k * 1 }))), (16, Item.res (Value.slice (some { block := 2, off := 0 + k * 1, spot := some 1 }) 1 (n - k))), (18, Item.eff (Value.bool false) [AObj.row (rowOf (fun i => [Value.float .f64 (x i)]) M) false opn, AObj.row (rowOf (fun i => [Value.complex .f64 (a i) (b i)]) n) true (some 1), AObj.row (rowOf (fun i => [Value.complex .f64 (u i) (v i)]) n) true none, AObj.row (rowOf (fun i => [Value.slice (some { block := 2, off := 0 + i * 1, spot := some 1 }) 1 (n - i)]) n) true (some 1), AObj.row [Value.slice (some ⟨3, 0, some 1⟩) n n] true none]), (21, Item.res (Value.int .i64 (iN (k + 1))))]) (ks := [0, 1, 2, 3, 4]) (mask := [true, true, false, false, true, false, false, true, true, false, false, false, false, false, false, false, false, false, false]) (ps := [(some (decide (iN k < iN n)) = some true), (ixF (Value.pointer (some { block := 3, off := 0 + k * 1 })) ([AObj.row (rowOf (fun i => [Value.float .f64 (x i)]) M) false opn, AObj.row (rowOf (fun i => [Value.complex .f64 (a i) (b i)]) n) true (some 1), AObj.row (rowOf (fun i => [Value.complex .f64 (u i) (v i)]) n) true none, AObj.row (rowOf (fun i => [Value.slice (some { block := 2, off := 0 + i * 1, spot := some 1 }) 1 (n - i)]) n) true (some 1), AObj.row [Value.slice (some ⟨3, 0, some 1⟩) n n] true none]) (iN k) (n) = some (Value.pointer (some { block := 3, off := 0 + k * 1 }), [AObj.row (rowOf (fun i => [Value.float .f64 (x i)]) M) false opn, AObj.row (rowOf (fun i => [Value.complex .f64 (a i) (b i)]) n) true (some 1), AObj.row (rowOf (fun i => [Value.complex .f64 (u i) (v i)]) n) true none, AObj.row (rowOf (fun i => [Value.slice (some { block := 2, off := 0 + i * 1, spot := some 1 }) 1 (n - i)]) n) true (some 1), AObj.row [Value.slice (some ⟨3, 0, some 1⟩) n n] true none])), (ldF (aLoad Try.prog ([AObj.row (rowOf (fun i => [Value.float .f64 (x i)]) M) false opn, AObj.row (rowOf (fun i => [Value.complex .f64 (a i) (b i)]) n) true (some 1), AObj.row (rowOf (fun i => [Value.complex .f64 (u i) (v i)]) n) true none, AObj.row (rowOf (fun i => [Value.slice (some { block := 2, off := 0 + i * 1, spot := some 1 }) 1 (n - i)]) n) true (some 1), AObj.row [Value.slice (some ⟨3, 0, some 1⟩) n n] true none]) 66 (.pointer (some ⟨3, 0 + k * 1, none⟩))) ([AObj.row (rowOf (fun i => [Value.float .f64 (x i)]) M) false opn, AObj.row (rowOf (fun i => [Value.complex .f64 (a i) (b i)]) n) true (some 1), AObj.row (rowOf (fun i => [Value.complex .f64 (u i) (v i)]) n) true none, AObj.row (rowOf (fun i => [Value.slice (some { block := 2, off := 0 + i * 1, spot := some 1 }) 1 (n - i)]) n) true (some 1), AObj.row [Value.slice (some ⟨3, 0, some 1⟩) n n] true none]) = some (Value.slice (some { block := 2, off := 0 + k * 1, spot := some 1 }) 1 (n - k), [AObj.row (rowOf (fun i => [Value.float .f64 (x i)]) M) false opn, AObj.row (rowOf (fun i => [Value.complex .f64 (a i) (b i)]) n) true (some 1), AObj.row (rowOf (fun i => [Value.complex .f64 (u i) (v i)]) n) true none, AObj.row (rowOf (fun i => [Value.slice (some { block := 2, off := 0 + i * 1, spot := some 1 }) 1 (n - i)]) n) true (some 1), AObj.row [Value.slice (some ⟨3, 0, some 1⟩) n n] true none])), (g204 [.slice (some ⟨2, 0 + k * 1, some 1⟩) 1 (n - k), .pointer (some ⟨4, 0, none⟩)] [AObj.row (rowOf (fun i => [Value.float .f64 (x i)]) M) false opn, AObj.row (rowOf (fun i => [Value.complex .f64 (a i) (b i)]) n) true (some 1), AObj.row (rowOf (fun i => [Value.complex .f64 (u i) (v i)]) n) true none, AObj.row (rowOf (fun i => [Value.slice (some { block := 2, off := 0 + i * 1, spot := some 1 }) 1 (n - i)]) n) true (some 1), AObj.row [Value.slice (some ⟨3, 0, some 1⟩) n n] true none] = some (Value.bool false, [AObj.row (rowOf (fun i => [Value.float .f64 (x i)]) M) false opn, AObj.row (rowOf (fun i => [Value.complex .f64 (a i) (b i)]) n) true (some 1), AObj.row (rowOf (fun i => [Value.complex .f64 (u i) (v i)]) n) true none, AObj.row (rowOf (fun i => [Value.slice (some { block := 2, off := 0 + i * 1, spot := some 1 }) 1 (n - i)]) n) true (some 1), AObj.row [Value.slice (some ⟨3, 0, some 1⟩) n n] true none])), (wF IntKind.i64 (iN k + 1) ([AObj.row (rowOf (fun i => [Value.float .f64 (x i)]) M) false opn, AObj.row (rowOf (fun i => [Value.complex .f64 (a i) (b i)]) n) true (some 1), AObj.row (rowOf (fun i => [Value.complex .f64 (u i) (v i)]) n) true none, AObj.row (rowOf (fun i => [Value.slice (some { block := 2, off := 0 + i * 1, spot := some 1 }) 1 (n - i)]) n) true (some 1), AObj.row [Value.slice (some ⟨3, 0, some 1⟩) n n] true none]) = some (.int IntKind.i64 (iN (k + 1)), [AObj.row (rowOf (fun i => [Value.float .f64 (x i)]) M) false opn, AObj.row (rowOf (fun i => [Value.complex .f64 (a i) (b i)]) n) true (some 1), AObj.row (rowOf (fun i => [Value.complex .f64 (u i) (v i)]) n) true none, AObj.row (rowOf (fun i => [Value.slice (some { block := 2, off := 0 + i * 1, spot := some 1 }) 1 (n - i)]) n) true (some 1), AObj.row [Value.slice (some ⟨3, 0, some 1⟩) n n] true none]))]) (L := 5) 5 bd5_okX (by kernel_rfl) ⟨bP_of (fun x => x) (show (decide (iN k < iN n)) = true from decide_eq_true (by (try simp only [decide_eq_true_eq, decide_eq_false_iff_not] at *); (try simp only [iN_eq, Int.ofNat_eq_natCast] at *); try omega)), ⟨ixF_ok _ _ (by (try simp only [decide_eq_true_eq, decide_eq_false_iff_not] at *); (try simp only [iN_eq, Int.ofNat_eq_natCast] at *); try omega), ⟨ldF_ok (load_one (k := k) (n := n) (g := fun i => ((fun i => [Value.slice (some { block := 2, off := 0 + i * 1, spot := some 1 }) 1 (n - i)]) i).getD 0 undef) rfl (by kernel_rfl) (by omega) (by (try simp only [decide_eq_true_eq, decide_eq_false_iff_not] at *); (try simp only [iN_eq, Int.ofNat_eq_natCast] at *); try omega)), ⟨s0, ⟨wF_ok _ (by (try simp only [decide_eq_true_eq, decide_eq_false_iff_not] at *); (try simp only [iN_eq, Int.ofNat_eq_natCast] at *); try omega) (by (try simp only [decide_eq_true_eq, decide_eq_false_iff_not] at *); (try simp only [iN_eq, Int.ofNat_eq_natCast] at *); try omega), trivial⟩⟩⟩⟩⟩ hst (by kernel_rfl) (by kernel_rfl) (by kernel_rfl) (by decide) (by kernel_rfl) ⟨by first | exact stay_plain (rowOf_all (fun _ => rfl) _) | exact stay_closed (rowOf_all (fun _ => rfl) _), ⟨by first | exact stay_plain (rowOf_all (fun _ => rfl) _) | exact stay_closed (rowOf_all (fun _ => rfl) _), ⟨by first | exact stay_plain (rowOf_all (fun _ => rfl) _) | exact stay_closed (rowOf_all (fun _ => rfl) _), ⟨by first | exact stay_plain (rowOf_all (fun _ => rfl) _) | exact stay_closed (rowOf_all (fun _ => rfl) _), ⟨by first | exact stay_closed (by kernel_rfl) | exact stay_plain (by kernel_rfl), trivial⟩⟩⟩⟩⟩
theorem bd5E_okX {g204 : HeapFn} : codeOkX ((dbdb g204)) [] (loopOf Try.f214 0) = true := by kernel_rfl
theorem bd5E_p0 (g204 : HeapFn) (hg204 : IsHeap Try.prog false 204 false g204) (opn : Option Nat) (x : Nat → Nat) (M : Nat) (n : Nat) (u : Nat → Nat) (v : Nat → Nat) (a : Nat → Nat) (b : Nat → Nat) (h0 : 0 < n) (hn : n ≤ 64) (hst : Stood false ([])) : Sim ((dbdb g204)) 5 (loopOf Try.f214 0) (([.slice (some ⟨3, 0, some 1⟩) n n, .func (.func 204) #[] #[.pointer (some ⟨4, 0, none⟩)], undef, undef, .int .i64 0, undef, undef, .int .i64 (iN n), .int .i64 (iN n)] ++ List.replicate 10 undef)) ([.row (rowOf (fun i => [.float .f64 (x i)]) M) false opn, .row (rowOf (fun i => [.complex .f64 (a i) (b i)]) n) true (some 1), .row (rowOf (fun i => [.complex .f64 (u i) (v i)]) n) true none, .row (rowOf (fun i => [.slice (some ⟨2, 0 + i * 1, some 1⟩) 1 (n - i)]) n) true (some 1), .row [.slice (some ⟨3, 0, some 1⟩) n n] true none]) (.exit 0) ([Value.slice (some ⟨3, 0, some 1⟩) n n, Value.func (Fn.func 204) { toList := [] } { toList := [Value.pointer (some ⟨4, 0, none⟩)] }, undef, undef, Value.int .i64 (Int.ofNat 0), undef, undef, Value.int .i64 (iN n), Value.int .i64 (iN n), undef, undef, undef, undef, undef, undef, undef, undef, undef, undef]) ([AObj.row (rowOf (fun i => [Value.float .f64 (x i)]) M) false opn, AObj.row (rowOf (fun i => [Value.complex .f64 (a i) (b i)]) n) true (some 1), AObj.row (rowOf (fun i => [Value.complex .f64 (u i) (v i)]) n) true none, AObj.row (rowOf (fun i => [Value.slice (some { block := 2, off := 0 + i * 1, spot := some 1 }) 1 (n - i)]) n) true (some 1), AObj.row [Value.slice (some ⟨3, 0, some 1⟩) n n] true none]) := Sim.of_roundC (C := (dbdb g204)) (dbdb_ok g204 hg204) (X := []) (n := 3) (orc := [(2, Item.br false)]) (ks := [0, 1, 2, 3, 4]) (mask := [true, true, false, false, true, false, false, true, true, false, false, false, false, false, false, false, false, false, false]) (ps := [(some (decide (iN n < iN n)) = some false)]) (L := 5) 5 bd5E_okX (by kernel_rfl) ⟨bP_of (fun x => x) (show (decide (iN n < iN n)) = false from decide_eq_false (by (try simp only [decide_eq_true_eq, decide_eq_false_iff_not] at *); (try simp only [iN_eq, Int.ofNat_eq_natCast] at *); try omega)), trivial⟩ hst (by kernel_rfl) (by kernel_rfl) (by kernel_rfl) (by decide) (by kernel_rfl) ⟨by first | exact stay_plain (rowOf_all (fun _ => rfl) _) | exact stay_closed (rowOf_all (fun _ => rfl) _), ⟨by first | exact stay_plain (rowOf_all (fun _ => rfl) _) | exact stay_closed (rowOf_all (fun _ => rfl) _), ⟨by first | exact stay_plain (rowOf_all (fun _ => rfl) _) | exact stay_closed (rowOf_all (fun _ => rfl) _), ⟨by first | exact stay_plain (rowOf_all (fun _ => rfl) _) | exact stay_closed (rowOf_all (fun _ => rfl) _), ⟨by first | exact stay_closed (by kernel_rfl) | exact stay_plain (by kernel_rfl), trivial⟩⟩⟩⟩⟩
theorem bd5C_fok {g204 : HeapFn} : fnOkX ((dbdb g204)) [] Try.f214 = true := by kernel_rfl
theorem bd5C_p0 (g204 : HeapFn) (hg204 : IsHeap Try.prog false 204 false g204) (opn : Option Nat) (x : Nat → Nat) (M : Nat) (n : Nat) (u : Nat → Nat) (v : Nat → Nat) (a : Nat → Nat) (b : Nat → Nat) (h0 : 0 < n) (hn : n ≤ 64) (l0 : Stood false ([AObj.row (rowOf (fun i => [Value.float .f64 (x i)]) M) false opn, AObj.row (rowOf (fun i => [Value.complex .f64 (a i) (b i)]) n) true (some 1), AObj.row (rowOf (fun i => [Value.complex .f64 (u i) (v i)]) n) true none, AObj.row (rowOf (fun i => [Value.slice (some { block := 2, off := 0 + i * 1, spot := some 1 }) 1 (n - i)]) n) true (some 1), AObj.row [Value.slice (some ⟨3, 0, some 1⟩) n n] true none]) → Sim ((dbdb g204)) 5 (.loop (loopOf Try.f214 0)) ([Value.slice (some ⟨3, 0, some 1⟩) n n, Value.func (Fn.func 204) { toList := [] } { toList := [Value.pointer (some ⟨4, 0, none⟩)] }, undef, undef, Value.int .i64 (Int.ofNat 0), undef, Value.slice (some ⟨3, 0, some 1⟩) n n, Value.int .i64 (iN n), Value.int .i64 (Int.ofNat 0), undef, undef, undef, undef, undef, undef, undef, undef, undef, undef]) ([AObj.row (rowOf (fun i => [Value.float .f64 (x i)]) M) false opn, AObj.row (rowOf (fun i => [Value.complex .f64 (a i) (b i)]) n) true (some 1), AObj.row (rowOf (fun i => [Value.complex .f64 (u i) (v i)]) n) true none, AObj.row (rowOf (fun i => [Value.slice (some { block := 2, off := 0 + i * 1, spot := some 1 }) 1 (n - i)]) n) true (some 1), AObj.row [Value.slice (some ⟨3, 0, some 1⟩) n n] true none]) (Exit.exit 0) ([Value.slice (some ⟨3, 0, some 1⟩) n n, Value.func (Fn.func 204) { toList := [] } { toList := [Value.pointer (some ⟨4, 0, none⟩)] }, undef, undef, Value.int .i64 (Int.ofNat 0), undef, undef, Value.int .i64 (iN n), Value.int .i64 (iN n), undef, undef, undef, undef, undef, undef, undef, undef, undef, undef]) ([AObj.row (rowOf (fun i => [Value.float .f64 (x i)]) M) false opn, AObj.row (rowOf (fun i => [Value.complex .f64 (a i) (b i)]) n) true (some 1), AObj.row (rowOf (fun i => [Value.complex .f64 (u i) (v i)]) n) true none, AObj.row (rowOf (fun i => [Value.slice (some { block := 2, off := 0 + i * 1, spot := some 1 }) 1 (n - i)]) n) true (some 1), AObj.row [Value.slice (some ⟨3, 0, some 1⟩) n n] true none])) : CallR Try.prog false 214 ([Value.slice (some ⟨3, 0, some 1⟩) n n, Value.func (Fn.func 204) { toList := [] } { toList := [Value.pointer (some ⟨4, 0, none⟩)] }]) ([AObj.row (rowOf (fun i => [Value.float .f64 (x i)]) M) false opn, AObj.row (rowOf (fun i => [Value.complex .f64 (a i) (b i)]) n) true (some 1), AObj.row (rowOf (fun i => [Value.complex .f64 (u i) (v i)]) n) true none, AObj.row (rowOf (fun i => [Value.slice (some { block := 2, off := 0 + i * 1, spot := some 1 }) 1 (n - i)]) n) true (some 1), AObj.row [Value.slice (some ⟨3, 0, some 1⟩) n n] true none]) (Value.int .i64 (Int.negSucc 0)) ([AObj.row (rowOf (fun i => [Value.float .f64 (x i)]) M) false opn, AObj.row (rowOf (fun i => [Value.complex .f64 (a i) (b i)]) n) true (some 1), AObj.row (rowOf (fun i => [Value.complex .f64 (u i) (v i)]) n) true none, AObj.row (rowOf (fun i => [Value.slice (some { block := 2, off := 0 + i * 1, spot := some 1 }) 1 (n - i)]) n) true (some 1), AObj.row [Value.slice (some ⟨3, 0, some 1⟩) n n] true none]) := CallR.of_DOXs (C := (dbdb g204)) (dbdb_ok g204 hg204) (X := []) Try.func214 bd5C_fok (n := 3) (orc := [(8, Item.loop (Exit.exit 0) ([Value.slice (some ⟨3, 0, some 1⟩) n n, Value.func (Fn.func 204) #[] #[Value.pointer (some ⟨4, 0, none⟩)], undef, undef, Value.int .i64 0, undef, undef, Value.int .i64 (iN n), Value.int .i64 (iN n)] ++ List.replicate 10 undef) [AObj.row (rowOf (fun i => [Value.float .f64 (x i)]) M) false opn, AObj.row (rowOf (fun i => [Value.complex .f64 (a i) (b i)]) n) true (some 1), AObj.row (rowOf (fun i => [Value.complex .f64 (u i) (v i)]) n) true none, AObj.row (rowOf (fun i => [Value.slice (some { block := 2, off := 0 + i * 1, spot := some 1 }) 1 (n - i)]) n) true (some 1), AObj.row [Value.slice (some ⟨3, 0, some 1⟩) n n] true none])]) (ps := [(Sim ((dbdb g204)) 5 (.loop (loopOf Try.f214 0)) ([Value.slice (some ⟨3, 0, some 1⟩) n n, Value.func (Fn.func 204) { toList := [] } { toList := [Value.pointer (some ⟨4, 0, none⟩)] }, undef, undef, Value.int .i64 (Int.ofNat 0), undef, Value.slice (some ⟨3, 0, some 1⟩) n n, Value.int .i64 (iN n), Value.int .i64 (Int.ofNat 0), undef, undef, undef, undef, undef, undef, undef, undef, undef, undef]) ([AObj.row (rowOf (fun i => [Value.float .f64 (x i)]) M) false opn, AObj.row (rowOf (fun i => [Value.complex .f64 (a i) (b i)]) n) true (some 1), AObj.row (rowOf (fun i => [Value.complex .f64 (u i) (v i)]) n) true none, AObj.row (rowOf (fun i => [Value.slice (some { block := 2, off := 0 + i * 1, spot := some 1 }) 1 (n - i)]) n) true (some 1), AObj.row [Value.slice (some ⟨3, 0, some 1⟩) n n] true none]) (Exit.exit 0) ([Value.slice (some ⟨3, 0, some 1⟩) n n, Value.func (Fn.func 204) { toList := [] } { toList := [Value.pointer (some ⟨4, 0, none⟩)] }, undef, undef, Value.int .i64 (Int.ofNat 0), undef, undef, Value.int .i64 (iN n), Value.int .i64 (iN n), undef, undef, undef, undef, undef, undef, undef, undef, undef, undef]) ([AObj.row (rowOf (fun i => [Value.float .f64 (x i)]) M) false opn, AObj.row (rowOf (fun i => [Value.complex .f64 (a i) (b i)]) n) true (some 1), AObj.row (rowOf (fun i => [Value.complex .f64 (u i) (v i)]) n) true none, AObj.row (rowOf (fun i => [Value.slice (some { block := 2, off := 0 + i * 1, spot := some 1 }) 1 (n - i)]) n) true (some 1), AObj.row [Value.slice (some ⟨3, 0, some 1⟩) n n] true none])), (List.length (α := AObj) ([AObj.row (rowOf (fun i => [Value.float .f64 (x i)]) M) false opn, AObj.row (rowOf (fun i => [Value.complex .f64 (a i) (b i)]) n) true (some 1), AObj.row (rowOf (fun i => [Value.complex .f64 (u i) (v i)]) n) true none, AObj.row (rowOf (fun i => [Value.slice (some { block := 2, off := 0 + i * 1, spot := some 1 }) 1 (n - i)]) n) true (some 1), AObj.row [Value.slice (some ⟨3, 0, some 1⟩) n n] true none]) ≤ List.length ([AObj.row (rowOf (fun i => [Value.float .f64 (x i)]) M) false opn, AObj.row (rowOf (fun i => [Value.complex .f64 (a i) (b i)]) n) true (some 1), AObj.row (rowOf (fun i => [Value.complex .f64 (u i) (v i)]) n) true none, AObj.row (rowOf (fun i => [Value.slice (some { block := 2, off := 0 + i * 1, spot := some 1 }) 1 (n - i)]) n) true (some 1), AObj.row [Value.slice (some ⟨3, 0, some 1⟩) n n] true none])), (Lk.Exit.isG (Exit.exit 0) = false)]) (by kernel_rfl) (fun hst => ⟨l0 hst, Nat.le_of_ble_eq_true (by kernel_rfl), rfl, trivial⟩)
end Go.Lk
end
