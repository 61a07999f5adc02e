/- Within, both; points that are one. -/
import Derived.Test.YtmomainjlncogaaLkNQ
import Derived.Test.YtmomainjlncogaaLkJA
namespace Go.Lk
open Go.Proofs
set_option maxRecDepth 100000
set_option maxHeartbeats 0
set_option linter.unusedVariables false
set_option linter.unusedSimpArgs false
theorem wNil_fok : fnOkX (dLW) [9] Try.f47 = true := by kernel_rfl
theorem wNil_p0 (x : Nat) (y : Nat) : CallR Try.prog false 47 ([Value.slice none 0 0, Value.agg { toList := [Value.float .f64 x, Value.float .f64 y] }]) ([]) (Value.bool false) ([AObj.row [Value.float .f64 x, Value.float .f64 y] true none]) := CallR.of_DOXs (C := dLW) dLW_ok (X := [9]) Try.func47 wNil_fok (n := 100) (orc := []) (ps := []) (by kernel_rfl) (fun hst => trivial)
theorem vNil_fok : fnOkX (dLW) [] Try.f48 = true := by kernel_rfl
theorem vNil_p0 (x : Nat) (y : Nat) : CallR Try.prog false 48 ([Value.slice none 0 0, Value.agg { toList := [Value.float .f64 x, Value.float .f64 y] }]) ([]) (Value.bool false) ([AObj.row [Value.float .f64 x, Value.float .f64 y] true none]) := CallR.of_DOXs (C := dLW) dLW_ok (X := []) Try.func48 vNil_fok (n := 100) (orc := []) (ps := []) (by kernel_rfl) (fun hst => trivial)
theorem withinN_v (px py : Nat → Nat) (n x y : Nat) : withinN px py n x y = bif decide (iN n < 3) then false else bif decide (iN n > 64) then false else vOdd px py n x y n := by unfold withinN; rw [odd_both]
theorem v_small (opn : Option Nat) (px py : Nat → Nat) (m n cap x y : Nat) (hm : n ≤ m) : ∃ σ', CallR Try.prog false 48 [.slice (some ⟨0, 0, some 2⟩) n cap, .agg #[.float .f64 x, .float .f64 y]] [.row (rowOf (fun i => [.float .f64 (px i), .float .f64 (py i)]) m) false opn] (.bool (withinN px py n x y)) σ' := by
  rw [withinN_v]
  cases h0 : decide (iN n < 3) with
  | true => exact ⟨_, vWithin_p0 opn px py m n cap x y hm h0⟩
  | false =>
    cases h1 : decide (iN n > 64) with
    | true => exact ⟨_, vWithin_p1 opn px py m n cap x y hm h0 h1⟩
    | false =>
      have hn : n ≤ 64 := by
        have := of_decide_eq_false h1
        rw [iN_eq] at this
        omega
      exact ⟨_, vWithin_p2 opn px py m n cap x y hm h0 h1 (fun hst => (v_loop opn px py m n cap x y hn hm hst).enter [true, true, false, true, true, true, true, false, false, false, false, false, false, false, false, false, false, false, false, false, false, false, false, false, false, false, false, false, false, false, false, false, false, false, false, false, false, false, false, false, false, false, false, false, false, false, false, false, false, false, false, false, false, false, false, false, false, false, false, false, false, false, false, false, false, false, false, false, false, false, false, false, false, false, false, false, false, false, false, false, false, false, false, false, false, false, false] (by kernel_rfl))⟩
def sWithin2 : HeapFn
  | [.slice none 0 0, .agg ⟨[.float .f64 _, .float .f64 _]⟩], σ => some (.bool false, σ)
  | args, σ => sWithin args σ
theorem sWithin2_is {f : FuncId} (hN : ∀ x y, ∃ σ', CallR Try.prog false f [.slice none 0 0, .agg #[.float .f64 x, .float .f64 y]] [] (.bool false) σ')
    (hS : ∀ opn (px py : Nat → Nat) m n cap x y, n ≤ m → ∃ σ', CallR Try.prog false f [.slice (some ⟨0, 0, some 2⟩) n cap, .agg #[.float .f64 x, .float .f64 y]] [.row (rowOf (fun i => [.float .f64 (px i), .float .f64 (py i)]) m) false opn] (.bool (withinN px py n x y)) σ') :
    IsHeap Try.prog false f true sWithin2 := by
  have quiet : ∀ (args : List Value) (σ : AHeap) (v : Value) (σ' : AHeap), sWithin2 args σ = some (v, σ') → σ' = σ := by
    intro args σ v σ' h
    unfold sWithin2 at h
    split at h
    · cases h; rfl
    · exact sWithin_ok.quiet rfl _ _ _ _ h
  refine ⟨fun args σ v σ' h => ?_, fun _ args σ v σ' h => quiet args σ v σ' h, fun args σ v σ' h => by rw [quiet args σ v σ' h]; exact Nat.le_refl _⟩
  unfold sWithin2 at h
  split at h
  · rename_i x y
    cases h
    obtain ⟨σ1, hs⟩ := hN x y
    exact CallR.frameQ (r := fun k => k + σ.length) (args0 := [.slice none 0 0, .agg #[.float .f64 x, .float .f64 y]]) (σ0 := []) ⟨fun k o hk => by simp at hk, fun k hk => by omega⟩ rfl hs rfl
  · unfold sWithin at h
    split at h
    · rename_i b n cap x y _
      split at h
      · rename_i vs rw' opn hb
        cases hc : (allFl vs && Nat.ble (2 * n) vs.length)
        · rw [hc] at h; cases h
        · rw [hc] at h
          cases h
          rw [Bool.and_eq_true] at hc
          obtain ⟨c1, c2⟩ := hc
          have c2 := Nat.le_of_ble_eq_true c2
          obtain ⟨σ1, hs⟩ := hS opn (fun i => fl vs (2 * i)) (fun i => fl vs (2 * i + 1)) (vs.length / 2) n cap x y (by omega)
          rw [allFl_row c1] at hs
          have c1' : vs.all isFl = true := by unfold allFl at c1; rw [Bool.and_eq_true] at c1; exact c1.1
          refine CallR.frameQ (r := fun k => if k = 0 then b else k + σ.length) ⟨fun k o hk => ?_, fun k hk => ?_⟩ ?_ hs rfl
          · have : k = 0 := by have := lt_of_some hk; simpa using this
            subst this
            simp only [List.getElem?_cons_zero, Option.some.injEq] at hk
            exact ⟨vs, opn, rw', hk.symm, hb, plain_fl c1'⟩
          · have hk : 1 ≤ k := hk
            have : ¬ k = 0 := by omega
            simp only [this, if_false]; omega
          · rfl
      · cases h
    · cases h
theorem sWithin47_ok : IsHeap Try.prog false 47 true sWithin2 := sWithin2_is (fun x y => ⟨_, wNil_p0 x y⟩) within_small
theorem sWithin48_ok : IsHeap Try.prog false 48 true sWithin2 := sWithin2_is (fun x y => ⟨_, vNil_p0 x y⟩) v_small
/-! ### At rows that are told by functions -/
theorem fl_row (a b : Nat → Nat) (m : Nat) : allFl (rowOf (fun i => [Value.float .f64 (a i), .float .f64 (b i)]) m) = true := by
  unfold allFl
  have hl := rowOf_len (f := fun i => [Value.float .f64 (a i), .float .f64 (b i)]) (s := 2) (fun _ => rfl) m
  rw [hl, show m * 2 % 2 = 0 by omega]
  have : (rowOf (fun i => [Value.float .f64 (a i), .float .f64 (b i)]) m).all isFl = true := rowOf_all (fun _ => rfl) m
  rw [this]; rfl
theorem fl_at {a b : Nat → Nat} {m i : Nat} (h : i < m) : fl (rowOf (fun i => [Value.float .f64 (a i), .float .f64 (b i)]) m) (2 * i) = a i ∧ fl (rowOf (fun i => [Value.float .f64 (a i), .float .f64 (b i)]) m) (2 * i + 1) = b i := by
  have h1 := rowOf_get (f := fun i => [Value.float .f64 (a i), .float .f64 (b i)]) (s := 2) (fun _ => rfl) (k := i) (n := m) (j := 0) h (by omega)
  have h2 := rowOf_get (f := fun i => [Value.float .f64 (a i), .float .f64 (b i)]) (s := 2) (fun _ => rfl) (k := i) (n := m) (j := 1) h (by omega)
  rw [show i * 2 + 0 = 2 * i by omega] at h1
  rw [show i * 2 + 1 = 2 * i + 1 by omega] at h2
  unfold fl
  rw [h1, h2]
  exact ⟨rfl, rfl⟩
theorem odd_congr {px py qx qy : Nat → Nat} {n x y : Nat} (h : ∀ i, i < n → px i = qx i ∧ py i = qy i) : ∀ k, k ≤ n → vOdd px py n x y k = vOdd qx qy n x y k
  | 0, _ => rfl
  | k + 1, hk => by
    have h1 := h k (by omega)
    have h2 := h (nxt n k) (nxt_lt (by omega))
    show (vOdd px py n x y k != crossP (px k) (py k) (px (nxt n k)) (py (nxt n k)) x y) = (vOdd qx qy n x y k != crossP (qx k) (qy k) (qx (nxt n k)) (qy (nxt n k)) x y)
    rw [odd_congr h k (by omega), h1.1, h1.2, h2.1, h2.2]
theorem within_congr {px py qx qy : Nat → Nat} {n x y : Nat} (h : ∀ i, i < n → px i = qx i ∧ py i = qy i) : withinN px py n x y = withinN qx qy n x y := by
  rw [withinN_v, withinN_v, odd_congr h n (Nat.le_refl n)]
theorem sWithin_row {a b : Nat → Nat} {m n cap x y bl : Nat} {rw' : Bool} {opn : Option Nat} {σ : AHeap} (hσ : σ[bl]? = some (.row (rowOf (fun i => [.float .f64 (a i), .float .f64 (b i)]) m) rw' opn)) (hn : n ≤ m) :
    sWithin2 [.slice (some ⟨bl, 0, some 2⟩) n cap, .agg #[.float .f64 x, .float .f64 y]] σ = some (.bool (withinN a b n x y), σ) := by
  show sWithin [.slice (some ⟨bl, 0, some 2⟩) n cap, .agg #[.float .f64 x, .float .f64 y]] σ = _
  unfold sWithin
  have hl := rowOf_len (f := fun i => [Value.float .f64 (a i), .float .f64 (b i)]) (s := 2) (fun _ => rfl) m
  have h2 : Nat.ble (2 * n) (rowOf (fun i => [Value.float .f64 (a i), .float .f64 (b i)]) m).length = true := Nat.ble_eq_true_of_le (by rw [hl]; omega)
  simp only [hσ, fl_row, h2, Bool.and_self, cond_true]
  congr 3
  exact within_congr fun i hi => fl_at (by omega)
noncomputable def tw2 : Tab := (t1.addH 47 true sWithin2).addH 48 true sWithin2
theorem tw2_ok : tw2.Ok Try.prog false := Tab.Ok.addH (Tab.Ok.addH t1_ok sWithin47_ok) sWithin48_ok
noncomputable def LSf : Lib := ⟨Try.prog, false, tw2, [], []⟩
theorem LSf_fp : ∀ e, e ∈ LSf.pures → Try.prog.funcs[e.1]? = some e.2 := fs_nil
theorem LSf_fh : ∀ e, e ∈ LSf.heaps → Try.prog.funcs[e.1]? = some e.2.2 := gs_nil
theorem LSf_p1 (gp : Nat → PureFn) (g : Nat → HeapFn) : (LSf.pures.all fun e => fnOk (LSf.mk' gp g) e.2) = true := by kernel_rfl
theorem LSf_h1 (gp : Nat → PureFn) (g : Nat → HeapFn) : (LSf.heaps.all fun e => fnOk (LSf.mk' gp g) e.2.2 && (!e.2.1 || fnRo (LSf.mk' gp g) e.2.2)) = true := by kernel_rfl
theorem LSf_ok : LSf.Ok := ⟨tw2_ok, mixed, LSf_fp, LSf_fh, LSf_p1, LSf_h1⟩
noncomputable def dLSf : Cfg := LSf.cfg 100 4
theorem dLSf_ok : dLSf.Ok := LSf_ok.cfg 100 4

theorem gSamf_fok : fnOk (dLSf) Try.f40 = true := by kernel_rfl
theorem gSamf_p0 (x : Nat) (y : Nat) (σ : AHeap) (h0 : (feq x x) = true) (h1 : (feq y y) = true) (h2 : (false || !isNaN x) = true) (h3 : (false || !isNaN y) = true) : CallR Try.prog false 40 [Value.float .f64 x, Value.float .f64 y] σ (Value.bool (iN x == iN y)) σ := CallR.of_DO_pure (C := dLSf) dLSf_ok Try.func40 gSamf_fok (n := 100) (orc := [(10, Item.br true), (12, Item.br true), (14, Item.br true), (17, Item.res (Value.bool !feq y y)), (18, Item.br false), (22, Item.res (Value.int IntKind.u64 (iN x))), (26, Item.res (Value.int IntKind.u64 (iN y)))]) (ps := [(bP ((!feq x x) == false) true), (bP ((!feq x x) == false) true), (bP ((!feq x x) == false) true), (pP (some (Value.bool true)) (some (Value.bool !feq y y)) ([]) (!feq x x) (Value.bool !feq y y)), (bP (!feq y y) false), (gP (Value.int IntKind.u64 (iN x)) ([]) (false || !isNaN x)), (gP (Value.int IntKind.u64 (iN y)) ([]) (false || !isNaN y))]) (σ1 := []) (by kernel_rfl) ⟨bP_of (fun x => (!x) == false) h0, ⟨bP_of (fun x => (!x) == false) h0, ⟨bP_of (fun x => (!x) == false) h0, ⟨pP_f _ _ _ (congrArg (fun bb => (!bb)) h0), ⟨bP_of (fun x => !x) h1, ⟨gP_true _ _ h2, ⟨gP_true _ _ h3, trivial⟩⟩⟩⟩⟩⟩⟩ rfl rfl
theorem gSamf_p1 (x : Nat) (y : Nat) (σ : AHeap) (h0 : (feq x x) = true) (h1 : (feq y y) = false) : CallR Try.prog false 40 [Value.float .f64 x, Value.float .f64 y] σ (Value.bool false) σ := CallR.of_DO_pure (C := dLSf) dLSf_ok Try.func40 gSamf_fok (n := 100) (orc := [(10, Item.br true), (12, Item.br true), (14, Item.br true), (17, Item.res (Value.bool !feq y y)), (18, Item.br true), (27, Item.br false), (29, Item.br false), (31, Item.br false), (34, Item.res (Value.bool false))]) (ps := [(bP ((!feq x x) == false) true), (bP ((!feq x x) == false) true), (bP ((!feq x x) == false) true), (pP (some (Value.bool true)) (some (Value.bool !feq y y)) ([]) (!feq x x) (Value.bool !feq y y)), (bP (!feq y y) true), (bP ((!feq x x) == true) false), (bP ((!feq x x) == true) false), (bP ((!feq x x) == true) false), (pP (none) (some (Value.bool false)) ([]) (!feq x x) (Value.bool false))]) (σ1 := []) (by kernel_rfl) ⟨bP_of (fun x => (!x) == false) h0, ⟨bP_of (fun x => (!x) == false) h0, ⟨bP_of (fun x => (!x) == false) h0, ⟨pP_f _ _ _ (congrArg (fun bb => (!bb)) h0), ⟨bP_of (fun x => !x) h1, ⟨bP_of (fun x => (!x) == true) h0, ⟨bP_of (fun x => (!x) == true) h0, ⟨bP_of (fun x => (!x) == true) h0, ⟨pP_f _ _ _ (congrArg (fun bb => (!bb)) h0), trivial⟩⟩⟩⟩⟩⟩⟩⟩⟩ rfl rfl
theorem gSamf_p2 (x : Nat) (y : Nat) (σ : AHeap) (h0 : (feq x x) = false) : CallR Try.prog false 40 [Value.float .f64 x, Value.float .f64 y] σ (Value.bool !feq y y) σ := CallR.of_DO_pure (C := dLSf) dLSf_ok Try.func40 gSamf_fok (n := 100) (orc := [(10, Item.br false), (12, Item.br false), (14, Item.br false), (17, Item.res (Value.bool true)), (27, Item.br true), (29, Item.br true), (31, Item.br true), (34, Item.res (Value.bool !feq y y))]) (ps := [(bP ((!feq x x) == false) false), (bP ((!feq x x) == false) false), (bP ((!feq x x) == false) false), (pP (some (Value.bool true)) (none) ([]) (!feq x x) (Value.bool true)), (bP ((!feq x x) == true) true), (bP ((!feq x x) == true) true), (bP ((!feq x x) == true) true), (pP (some (Value.bool !feq y y)) (some (Value.bool false)) ([]) (!feq x x) (Value.bool !feq y y))]) (σ1 := []) (by kernel_rfl) ⟨bP_of (fun x => (!x) == false) h0, ⟨bP_of (fun x => (!x) == false) h0, ⟨bP_of (fun x => (!x) == false) h0, ⟨pP_t _ _ _ (congrArg (fun bb => (!bb)) h0), ⟨bP_of (fun x => (!x) == true) h0, ⟨bP_of (fun x => (!x) == true) h0, ⟨bP_of (fun x => (!x) == true) h0, ⟨pP_t _ _ _ (congrArg (fun bb => (!bb)) h0), trivial⟩⟩⟩⟩⟩⟩⟩⟩ rfl rfl
def gSamf_t (x : Nat) (y : Nat) : Value := (bif feq x x then (bif feq y y then (Value.bool (iN x == iN y)) else (Value.bool false)) else (Value.bool !feq y y))
theorem gSamf_c (x : Nat) (y : Nat) (σ : AHeap) (g0_2 : (feq x
  x) = true → (feq y
  y) = true → (false ||
  !isNaN
      x) = true) (g0_3 : (feq x
  x) = true → (feq y
  y) = true → (false ||
  !isNaN y) = true) : CallR Try.prog false 40 [Value.float .f64 x, Value.float .f64 y] σ (gSamf_t x y) σ := by
  unfold gSamf_t
  exact (CallR.bif (fun h0 => (CallR.bif (fun h1 => (gSamf_p0 x y σ h0 h1 (g0_2 h0 h1) (g0_3 h0 h1))) (fun h1 => (gSamf_p1 x y σ h0 h1)))) (fun h0 => (gSamf_p2 x y σ h0)))
def gSamf_0 (x : Nat) (y : Nat) : Bool := (bif feq x x then (bif feq y y then iN x == iN y else false) else !feq y y)
theorem gSamf_v (x : Nat) (y : Nat) : gSamf_t x y = Go.Value.bool (gSamf_0 x y) := by
  unfold gSamf_t gSamf_0
  cases (feq x x) with
  | true =>
    cases (feq y y) with
    | true =>
      kernel_rfl
    | false =>
      kernel_rfl
  | false =>
    kernel_rfl
theorem gSamf_ok (x : Nat) (y : Nat) (σ : AHeap) (g0_2 : (feq x
  x) = true → (feq y
  y) = true → (false ||
  !isNaN
      x) = true) (g0_3 : (feq x
  x) = true → (feq y
  y) = true → (false ||
  !isNaN
      y) = true) : CallR Try.prog false 40 [Value.float .f64 x,
  Value.float .f64 y] σ (Go.Value.bool (gSamf_0 x y)) σ := by
  have h := gSamf_c x y σ g0_2 g0_3
  rw [gSamf_v] at h
  exact h
theorem num_of {x : Nat} (h : feq x x = true) : (false || !isNaN x) = true := by
  cases hn : isNaN x
  · rfl
  · rw [feq_nan_l hn] at h; cases h
theorem gSamf_ok' (x y : Nat) (σ : AHeap) : CallR Try.prog false 40 [Value.float .f64 x, Value.float .f64 y] σ (.bool (gSamf_0 x y)) σ := gSamf_ok x y σ (fun h _ => num_of h) (fun _ h => num_of h)
def sSamf : PureFn
  | [.float .f64 x, .float .f64 y] => some (.bool (gSamf_0 x y))
  | _ => none
theorem sSamf_ok : IsPure Try.prog false 40 sSamf := by
  intro args v σ h
  unfold sSamf at h
  split at h
  · cases h; exact gSamf_ok' _ _ σ
  · cases h
noncomputable def tw3 : Tab := (tw2.addP 40 sSamf)
theorem tw3_ok : tw3.Ok Try.prog false := (Tab.Ok.addP tw2_ok sSamf_ok)
noncomputable def LSg : Lib := ⟨Try.prog, false, tw3, [], []⟩
theorem LSg_fp : ∀ e, e ∈ LSg.pures → Try.prog.funcs[e.1]? = some e.2 := fs_nil
theorem LSg_fh : ∀ e, e ∈ LSg.heaps → Try.prog.funcs[e.1]? = some e.2.2 := gs_nil
theorem LSg_p1 (gp : Nat → PureFn) (g : Nat → HeapFn) : (LSg.pures.all fun e => fnOk (LSg.mk' gp g) e.2) = true := by kernel_rfl
theorem LSg_h1 (gp : Nat → PureFn) (g : Nat → HeapFn) : (LSg.heaps.all fun e => fnOk (LSg.mk' gp g) e.2.2 && (!e.2.1 || fnRo (LSg.mk' gp g) e.2.2)) = true := by kernel_rfl
theorem LSg_ok : LSg.Ok := ⟨tw3_ok, mixed, LSg_fp, LSg_fh, LSg_p1, LSg_h1⟩
noncomputable def dLSg : Cfg := LSg.cfg 100 4
theorem dLSg_ok : dLSg.Ok := LSg_ok.cfg 100 4

theorem gSamp_fok : fnOk (dLSg) Try.f49 = true := by kernel_rfl
theorem gSamp_p0 (a : Nat) (b : Nat) (c : Nat) (d : Nat) (σ : AHeap) (h0 : (gSamf_0 a c) = true) : CallR Try.prog false 49 [Value.agg #[Value.float .f64 a, Value.float .f64 b], Value.agg #[Value.float .f64 c, Value.float .f64 d]] σ (Value.bool (gSamf_0 b d)) σ := CallR.of_DO_pure (C := dLSg) dLSg_ok Try.func49 gSamp_fok (n := 100) (orc := [(18, Item.br true), (20, Item.br true), (22, Item.br true), (24, Item.br true), (26, Item.br true), (29, Item.res (Value.bool (gSamf_0 b d)))]) (ps := [(bP (gSamf_0 a c == true) true), (bP (gSamf_0 a c == true) true), (bP (gSamf_0 a c == true) true), (bP (gSamf_0 a c == true) true), (bP (gSamf_0 a c == true) true), (pP (some (Value.bool (gSamf_0 b d))) (some (Value.bool false)) ([AObj.row [Value.float .f64 a, Value.float .f64 b] true none, AObj.row [Value.float .f64 c, Value.float .f64 d] true none]) (gSamf_0 a c) (Value.bool (gSamf_0 b d)))]) (σ1 := [AObj.row [Value.float .f64 a, Value.float .f64 b] true none, AObj.row [Value.float .f64 c, Value.float .f64 d] true none]) (by kernel_rfl) ⟨bP_of (fun x => x == true) h0, ⟨bP_of (fun x => x == true) h0, ⟨bP_of (fun x => x == true) h0, ⟨bP_of (fun x => x == true) h0, ⟨bP_of (fun x => x == true) h0, ⟨pP_t _ _ _ (congrArg (fun bb => (bb)) h0), trivial⟩⟩⟩⟩⟩⟩ rfl rfl
theorem gSamp_p1 (a : Nat) (b : Nat) (c : Nat) (d : Nat) (σ : AHeap) (h0 : (gSamf_0 a c) = false) : CallR Try.prog false 49 [Value.agg #[Value.float .f64 a, Value.float .f64 b], Value.agg #[Value.float .f64 c, Value.float .f64 d]] σ (Value.bool false) σ := CallR.of_DO_pure (C := dLSg) dLSg_ok Try.func49 gSamp_fok (n := 100) (orc := [(18, Item.br false), (20, Item.br false), (22, Item.br false), (24, Item.br false), (26, Item.br false), (29, Item.res (Value.bool false))]) (ps := [(bP (gSamf_0 a c == true) false), (bP (gSamf_0 a c == true) false), (bP (gSamf_0 a c == true) false), (bP (gSamf_0 a c == true) false), (bP (gSamf_0 a c == true) false), (pP (none) (some (Value.bool false)) ([AObj.row [Value.float .f64 a, Value.float .f64 b] true none, AObj.row [Value.float .f64 c, Value.float .f64 d] true none]) (gSamf_0 a c) (Value.bool false))]) (σ1 := [AObj.row [Value.float .f64 a, Value.float .f64 b] true none, AObj.row [Value.float .f64 c, Value.float .f64 d] true none]) (by kernel_rfl) ⟨bP_of (fun x => x == true) h0, ⟨bP_of (fun x => x == true) h0, ⟨bP_of (fun x => x == true) h0, ⟨bP_of (fun x => x == true) h0, ⟨bP_of (fun x => x == true) h0, ⟨pP_f _ _ _ (congrArg (fun bb => (bb)) h0), trivial⟩⟩⟩⟩⟩⟩ rfl rfl
def gSamp_t (a : Nat) (b : Nat) (c : Nat) (d : Nat) : Value := (bif gSamf_0 a c then (Value.bool (gSamf_0 b d)) else (Value.bool false))
theorem gSamp_c (a : Nat) (b : Nat) (c : Nat) (d : Nat) (σ : AHeap) : CallR Try.prog false 49 [Value.agg
    #[Value.float .f64 a, Value.float .f64 b],
  Value.agg #[Value.float .f64 c, Value.float .f64 d]] σ (gSamp_t a b c d) σ := by
  unfold gSamp_t
  exact (CallR.bif (fun h0 => (gSamp_p0 a b c d σ h0)) (fun h0 => (gSamp_p1 a b c d σ h0)))
def gSamp_0 (a : Nat) (b : Nat) (c : Nat) (d : Nat) : Bool := (bif gSamf_0 a c then gSamf_0 b d else false)
theorem gSamp_v (a : Nat) (b : Nat) (c : Nat) (d : Nat) : gSamp_t a b c d = Go.Value.bool (gSamp_0 a b c d) := by
  unfold gSamp_t gSamp_0
  cases (gSamf_0 a c) with
  | true =>
    kernel_rfl
  | false =>
    kernel_rfl
theorem gSamp_ok (a : Nat) (b : Nat) (c : Nat) (d : Nat) (σ : AHeap) : CallR Try.prog false 49 [Value.agg
    #[Value.float .f64 a, Value.float .f64 b],
  Value.agg #[Value.float .f64 c, Value.float .f64 d]] σ (Go.Value.bool (gSamp_0 a b c d)) σ := by
  have h := gSamp_c a b c d σ
  rw [gSamp_v] at h
  exact h
def sSamp : PureFn
  | [.agg ⟨[.float .f64 a, .float .f64 b]⟩, .agg ⟨[.float .f64 c, .float .f64 d]⟩] => some (.bool (gSamp_0 a b c d))
  | _ => none
theorem sSamp_ok : IsPure Try.prog false 49 sSamp := by
  intro args v σ h
  unfold sSamp at h
  split at h
  · cases h; exact gSamp_ok _ _ _ _ σ
  · cases h
noncomputable def tw4 : Tab := (tw3.addP 49 sSamp)
theorem tw4_ok : tw4.Ok Try.prog false := (Tab.Ok.addP tw3_ok sSamp_ok)
theorem samf_refl (a : Nat) : gSamf_0 a a = true := by
  unfold gSamf_0
  cases feq a a <;> simp
theorem samp_refl (a b : Nat) : gSamp_0 a b a b = true := by
  unfold gSamp_0
  rw [samf_refl, samf_refl]; rfl
end Go.Lk
