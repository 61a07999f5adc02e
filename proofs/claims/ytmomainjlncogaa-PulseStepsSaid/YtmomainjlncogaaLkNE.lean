/- Steps of frequency: contracts. -/
import Derived.Test.YtmomainjlncogaaLkND
namespace Go.Lk
open Go.Proofs
set_option maxRecDepth 100000
set_option linter.unusedVariables false
set_option linter.unusedSimpArgs false
/-! ### Answers of functions that read a row of whole numbers -/
def isI64 : Value → Bool | .int .i64 _ => true | _ => false
def intAt (vs : List Value) (i : Nat) : Int := match vs[i]? with | some (.int .i64 n) => n | _ => 0
theorem isI64_eq {v : Value} (h : isI64 v = true) : ∃ n, v = .int .i64 n := by
  unfold isI64 at h
  split at h
  · exact ⟨_, rfl⟩
  · cases h
theorem int_row {vs : List Value} (h : vs.all isI64 = true) : rowOf (fun i => [.int .i64 (intAt vs i)]) vs.length = vs := by
  have hl := rowOf_len (f := fun i => [Value.int .i64 (intAt vs i)]) (s := 1) (fun _ => rfl) vs.length
  apply List.ext_getElem?
  intro j
  rcases Nat.lt_or_ge j vs.length with hj | hj
  · have h3 := rowOf_gt (f := fun i => [Value.int .i64 (intAt vs i)]) (s := 1) (fun _ => rfl) (k := j) (n := vs.length) (j := 0) hj (by omega)
    rw [show j * 1 + 0 = j by omega] at h3
    rw [h3]
    have hm : vs[j]? = some vs[j] := List.getElem?_eq_getElem hj
    obtain ⟨a, e⟩ := isI64_eq (List.all_eq_true.1 h vs[j] (List.getElem_mem hj))
    rw [e] at hm
    simp only [List.getElem?_cons_zero, intAt, hm]
  · rw [List.getElem?_eq_none hj, List.getElem?_eq_none (by rw [hl]; omega)]
theorem plain_int {vs : List Value} (h : vs.all isI64 = true) : vs.all plain = true := by
  rw [List.all_eq_true] at h ⊢
  intro v hv
  obtain ⟨a, rfl⟩ := isI64_eq (h v hv)
  rfl
def sAnS (z : Nat) (row : (Nat → Nat) → (Nat → Nat) → Nat → List Value) (h : (Nat → Int) → Nat → Int → An) : HeapFn
  | [.slice none 0 0, .int .i64 n], σ => some (aVal σ.length z (h (fun _ => 0) 0 n), σ ++ [aObj z row (h (fun _ => 0) 0 n)])
  | [.slice (some ⟨b, 0, some 1⟩) m cap, .int .i64 n], σ =>
    match σ[b]? with
    | some (.row vs _ _) => bif vs.all isI64 && Nat.ble m vs.length then some (aVal σ.length z (h (intAt vs) m n), σ ++ [aObj z row (h (intAt vs) m n)]) else none
    | _ => none
  | _, _ => none
/-- What a walk over a small heap shows. -/
def AnCallS (f : FuncId) (args : List Value) (σ0 : AHeap) (z : Nat) (row : (Nat → Nat) → (Nat → Nat) → Nat → List Value) (x : An) : Prop :=
  (x.n = 0 ∧ ∃ σ', CallR Try.prog false f args σ0 (aVal 0 z x) σ') ∨
  (0 < x.n ∧ ∃ σ' k o, CallR Try.prog false f args σ0 (aVal k z x) σ' ∧ σ'[k]? = some (.row (row x.a x.b x.n) true o) ∧ (o = none ∨ o = some z))
theorem AnCallS.lift {f : FuncId} {args0 args : List Value} {σ0 σ : AHeap} {z : Nat} {row : (Nat → Nat) → (Nat → Nat) → Nat → List Value} {x : An} {r : Nat → Nat} (hp : ∀ a b n, (row a b n).all plain = true)
    (hs : Reads σ0 r σ) (ha : args0.map (renV r 3) = args) (hc : AnCallS f args0 σ0 z row x) : CallR Try.prog false f args σ (aVal σ.length z x) (σ ++ [aObj z row x]) := by
  rcases hc with ⟨h0, σ1, hc⟩ | ⟨h0, σ1, k, o, hc, hk, ho⟩
  · have e1 : aVal σ.length z x = aVal 0 z x := by unfold aVal; rw [h0]; rfl
    have e2 : aObj z row x = .dead := by unfold aObj; rw [h0]
    rw [e1, e2]
    have hv : plain (aVal 0 z x) = true := by unfold aVal; rw [h0]; rfl
    exact (CallR.frameQ hs ha hc hv).addDead hv
  · obtain ⟨n, hn⟩ : ∃ n, x.n = n + 1 := ⟨x.n - 1, by omega⟩
    have e2 : aObj z row x = .row (row x.a x.b x.n) true (some z) := by unfold aObj; rw [hn]
    rw [e2]
    have hN : CallR Try.prog false f args σ (aVal σ.length z x) (σ ++ [.row (row x.a x.b x.n) true o]) := by
      refine CallR.frameN (q := fun b => if b = σ.length then k else b + σ1.length) hs ha hc hk (hp _ _ _) (fun _ => rfl) ?_
      unfold aVal
      rw [hn]
      simp [aSl, renV]
    rcases ho with rfl | rfl
    · exact hN.loosen z (hp _ _ _)
    · exact hN
theorem sAnS_is {f : FuncId} {z : Nat} {row : (Nat → Nat) → (Nat → Nat) → Nat → List Value} {h : (Nat → Int) → Nat → Int → An} (hp : ∀ a b n, (row a b n).all plain = true)
    (hN : ∀ n, AnCallS f [.slice none 0 0, .int .i64 n] [] z row (h (fun _ => 0) 0 n))
    (hS : ∀ opn (w : Nat → Int) M m cap n, m ≤ M → AnCallS f [.slice (some ⟨0, 0, some 1⟩) m cap, .int .i64 n] [.row (rowOf (fun i => [.int .i64 (w i)]) M) false opn] z row (h w m n)) : IsHeap Try.prog false f false (sAnS z row h) := by
  refine ⟨fun args σ v σ' hs => ?_, (by intro h; cases h), fun args σ v σ' hs => ?_⟩
  · unfold sAnS at hs
    split at hs
    · rename_i n
      cases hs
      exact (hN n).lift (r := fun k => k + σ.length) hp ⟨fun k o hk => by simp at hk, fun k hk => by omega⟩ rfl
    · rename_i b m cap n
      split at hs
      · rename_i vs rw' opn hb
        cases hc : (vs.all isI64 && Nat.ble m vs.length)
        · rw [hc] at hs; cases hs
        · rw [hc] at hs
          cases hs
          simp only [Bool.and_eq_true] at hc
          have hS' := hS opn (intAt vs) vs.length m cap n (Nat.le_of_ble_eq_true hc.2)
          rw [int_row hc.1] at hS'
          refine hS'.lift (r := fun k => if k = 0 then b else k + σ.length) hp ⟨fun k o hk => ?_, fun k hk => ?_⟩ rfl
          · have : k = 0 := by have := lt_of_some hk; simpa using this
            subst this
            simp only [List.getElem?_cons_zero, Option.some.injEq] at hk
            exact ⟨vs, opn, rw', hk.symm, hb, plain_int hc.1⟩
          · have hk : 1 ≤ k := hk
            have : ¬ k = 0 := by omega
            simp only [this, if_false]; omega
      · cases hs
    · cases hs
  · unfold sAnS at hs
    split at hs
    · cases hs; simp
    · split at hs
      · rename_i vs _ _ _
        generalize (vs.all isI64 && _) = c at hs
        cases c
        · cases hs
        · cases hs; simp
      · cases hs
    · cases hs
theorem st_side {z m cap b : Nat} {n : Int} {row : (Nat → Nat) → (Nat → Nat) → Nat → List Value} {h : (Nat → Int) → Nat → Int → An} {w : Nat → Int} {vs : List Value} {rw' : Bool} {opn : Option Nat} {σ : AHeap}
    (hσ : σ[b]? = some (.row vs rw' opn)) (hv : vs.all isI64 = true) (hm : Nat.ble m vs.length = true) (he : h (intAt vs) m n = h w m n) :
    sAnS z row h [.slice (some ⟨b, 0, some 1⟩) m cap, .int .i64 n] σ = some (.tuple #[.slice (aAd σ.length (h w m n).n z) (h w m n).n (h w m n).n, .int .i64 (h w m n).e], σ ++ [aObj z row (h w m n)]) := by
  unfold sAnS
  simp only [hσ, hv, hm, Bool.and_self, cond_true, he, aVal_eq]
/-! ### Steps -/
def stAn (A B : (Nat → Int) → Nat → Nat → Nat) (w : Nat → Int) (m : Nat) (n : Int) : An :=
  bif decide (n < 1) then ⟨0, fun _ => 0, fun _ => 0, 2⟩ else
  match m with
  | 0 => ⟨0, fun _ => 0, fun _ => 0, 0⟩
  | m + 1 => bif decide (n > 16384 / ((m : Int) + 1)) then ⟨0, fun _ => 0, fun _ => 0, 3⟩ else ⟨n.toNat * (m + 1), A w n.toNat, B w n.toNat, 0⟩
def swA (w : Nat → Int) (n s : Nat) : Nat := wUnit_0 (Int.tmod (IntKind.i64.wrap (sfW w n (s / n) * iN (s % n))) (iN n)) (iN n)
def swB (w : Nat → Int) (n s : Nat) : Nat := wUnit_1 (Int.tmod (IntKind.i64.wrap (sfW w n (s / n) * iN (s % n))) (iN n)) (iN n)
def srA (w : Nat → Int) (n s : Nat) : Nat := rUnit_0 (mdl (IntKind.i64.wrap (sfR w n (s / n) * iN (s % n))) (iN n)) (iN n)
def srB (w : Nat → Int) (n s : Nat) : Nat := rUnit_1 (mdl (IntKind.i64.wrap (sfR w n (s / n) * iN (s % n))) (iN n)) (iN n)
theorem quo_wrap (m : Nat) (hm : 0 < m) : IntKind.i64.wrap ((Int.ofNat 16384).tdiv (iN m)) = 16384 / (m : Int) := by
  have h1 : (Int.ofNat 16384).tdiv (iN m) = 16384 / (m : Int) := by
    rw [iN_eq, Int.tdiv_eq_ediv_of_nonneg (by decide)]; rfl
  rw [h1]
  have h2 : 0 ≤ 16384 / (m : Int) := Int.ediv_nonneg (by decide) (by omega)
  have h3 : 16384 / (m : Int) ≤ 16384 := Int.ediv_le_self _ (by decide)
  exact i64_wrap ⟨by omega, by omega⟩
theorem st_all {f z : Nat} {row : (Nat → Nat) → (Nat → Nat) → Nat → List Value} {A B : (Nat → Int) → Nat → Nat → Nat}
    (h2 : ∀ opn (w : Nat → Int) M m cap (n : Int), decide (n < Int.ofNat 1) = true → ∃ σ', CallR Try.prog false f [.slice (some ⟨0, 0, some 1⟩) m cap, .int .i64 n] [.row (rowOf (fun i => [.int .i64 (w i)]) M) false opn] (.tuple #[.slice none 0 0, .int .i64 2]) σ')
    (h3 : ∀ opn (w : Nat → Int) M m cap (n : Int), decide (n < Int.ofNat 1) = false → 0 < m → decide (n > IntKind.i64.wrap ((Int.ofNat 16384).tdiv (iN m))) = true → ∃ σ', CallR Try.prog false f [.slice (some ⟨0, 0, some 1⟩) m cap, .int .i64 n] [.row (rowOf (fun i => [.int .i64 (w i)]) M) false opn] (.tuple #[.slice none 0 0, .int .i64 3]) σ')
    (h0 : ∀ opn (w : Nat → Int) M cap (n : Int), decide (n < Int.ofNat 1) = false → ∃ σ', CallR Try.prog false f [.slice (some ⟨0, 0, some 1⟩) 0 cap, .int .i64 n] [.row (rowOf (fun i => [.int .i64 (w i)]) M) false opn] (.tuple #[.slice none 0 0, .int .i64 0]) σ')
    (hC : ∀ opn (w : Nat → Int) M m cap (n : Nat), n ≤ 16384 → m ≤ 16384 → m ≤ M → decide (0 < iN n) = true → 0 < m → 0 < n → n * m ≤ 16384 → decide (iN n > IntKind.i64.wrap ((Int.ofNat 16384).tdiv (iN m))) = false →
      ∃ σ' o, CallR Try.prog false f [.slice (some ⟨0, 0, some 1⟩) m cap, .int .i64 (iN n)] [.row (rowOf (fun i => [.int .i64 (w i)]) M) false opn] (.tuple #[.slice (some ⟨1, 0, some z⟩) (n * m) (n * m), .int .i64 0]) σ' ∧ σ'[1]? = some (.row (row (A w n) (B w n) (n * m)) true o) ∧ (o = none ∨ o = some z))
    (opn : Option Nat) (w : Nat → Int) (M m cap : Nat) (n : Int) (hM : m ≤ M) : AnCallS f [.slice (some ⟨0, 0, some 1⟩) m cap, .int .i64 n] [.row (rowOf (fun i => [.int .i64 (w i)]) M) false opn] z row (stAn A B w m n) := by
  unfold stAn
  cases e1 : decide (n < 1)
  · cases m with
    | zero => exact .inl ⟨rfl, h0 opn w M cap n e1⟩
    | succ m =>
      have hq := quo_wrap (m + 1) (by omega)
      have ee : ((m + 1 : Nat) : Int) = (m : Int) + 1 := by omega
      cases e2 : decide (n > 16384 / ((m : Int) + 1))
      · simp only [cond_false, e2]
        have g1 := of_decide_eq_false e1
        have g2 := of_decide_eq_false e2
        have en : iN n.toNat = n := by rw [iN_eq]; omega
        have hle : n * ((m : Int) + 1) ≤ 16384 := by
          have := Int.mul_le_mul_of_nonneg_right (show n ≤ 16384 / ((m : Int) + 1) by omega) (show 0 ≤ (m : Int) + 1 by omega)
          have h5 := Int.ediv_mul_le 16384 (show (m : Int) + 1 ≠ 0 by omega)
          omega
        have hle2 : n.toNat * (m + 1) ≤ 16384 := by
          have : ((n.toNat * (m + 1) : Nat) : Int) ≤ 16384 := by
            rw [Int.natCast_mul, ee, show ((n.toNat : Nat) : Int) = n by omega]; exact hle
          omega
        have b1 : n.toNat ≤ 16384 := by
          have := Nat.le_mul_of_pos_right n.toNat (show 0 < m + 1 by omega)
          omega
        have b2 : m + 1 ≤ 16384 := by
          have := Nat.le_mul_of_pos_left (m + 1) (show 0 < n.toNat by omega)
          omega
        obtain ⟨σ', o, k1, k2, k3⟩ := hC opn w M (m + 1) cap n.toNat b1 b2 hM (by rw [en]; exact decide_eq_true (by omega)) (by omega) (by omega) hle2 (by rw [en, hq, ee]; exact e2)
        rw [en] at k1
        have hpos : 0 < n.toNat * (m + 1) := Nat.mul_pos (by omega) (by omega)
        refine .inr ⟨hpos, σ', 1, o, ?_, k2, k3⟩
        have : aVal 1 z ⟨n.toNat * (m + 1), A w n.toNat, B w n.toNat, 0⟩ = .tuple #[.slice (some ⟨1, 0, some z⟩) (n.toNat * (m + 1)) (n.toNat * (m + 1)), .int .i64 0] := by
          obtain ⟨k, hk⟩ : ∃ k, n.toNat * (m + 1) = k + 1 := ⟨n.toNat * (m + 1) - 1, by omega⟩
          unfold aVal
          simp only [hk, aSl]
        rw [this]
        exact k1
      · simp only [cond_false, cond_true, e2]
        exact .inl ⟨rfl, h3 opn w M (m + 1) cap n e1 (by omega) (by rw [hq, ee]; exact e2)⟩
  · exact .inl ⟨rfl, h2 opn w M m cap n e1⟩
theorem st_nil {f z : Nat} {row : (Nat → Nat) → (Nat → Nat) → Nat → List Value} {A B : (Nat → Int) → Nat → Nat → Nat}
    (h2 : ∀ (n : Int), decide (n < Int.ofNat 1) = true → ∃ σ', CallR Try.prog false f [.slice none 0 0, .int .i64 n] [] (.tuple #[.slice none 0 0, .int .i64 2]) σ')
    (h0 : ∀ (n : Int), decide (n < Int.ofNat 1) = false → ∃ σ', CallR Try.prog false f [.slice none 0 0, .int .i64 n] [] (.tuple #[.slice none 0 0, .int .i64 0]) σ') (n : Int) : AnCallS f [.slice none 0 0, .int .i64 n] [] z row (stAn A B (fun _ => 0) 0 n) := by
  unfold stAn
  cases e1 : decide (n < 1)
  · exact .inl ⟨rfl, h0 n e1⟩
  · exact .inl ⟨rfl, h2 n e1⟩
def sSteps : HeapFn := sAnS 1 xRow (stAn swA swB)
def sRSteps : HeapFn := sAnS 2 pRow (stAn srA srB)
theorem sSteps_ok : IsHeap Try.prog false 71 false sSteps :=
  sAnS_is xRow_plain (st_nil (fun n h => ⟨_, swN2_p0 n h⟩) (fun n h => ⟨_, swN0_p0 n h⟩))
    (fun opn w M m cap n hM => st_all (fun opn w M m cap n h => ⟨_, swE2_p0 opn w M m cap n h⟩) (fun opn w M m cap n h1 h0 hq => ⟨_, swE3_p0 opn w M m cap n h1 h0 hq⟩) (fun opn w M cap n h => ⟨_, swE0_p0 opn w M cap n h⟩)
      (fun opn w M m cap n hn hm hM hg h0 h1 hs hq => ⟨_, _, swC_p0 opn w M m cap n hn hm hM hg h0 h1 hq (fun hst => by
        cases n with
        | zero => omega
        | succ n =>
          cases m with
          | zero => omega
          | succ m => exact (sw_out opn w M (m + 1) cap n hn hm hM hg h0 hs hst).enter [true, true, false, false, true, true, true, false, false, false, false, false, false, false, false, false, false, false, false, false, false, false, false, false, true, true, true, false, false, false, false, false, false, false, false, false, false, false, false, false, false, false, false, false, false, false, false, false, false, false, false, false, false, false] (by kernel_rfl)), rfl, .inr rfl⟩) opn w M m cap n hM)
theorem sRSteps_ok : IsHeap Try.prog false 70 false sRSteps :=
  sAnS_is pRow_plain (st_nil (fun n h => ⟨_, srN2_p0 n h⟩) (fun n h => ⟨_, srN0_p0 n h⟩))
    (fun opn w M m cap n hM => st_all (fun opn w M m cap n h => ⟨_, srE2_p0 opn w M m cap n h⟩) (fun opn w M m cap n h1 h0 hq => ⟨_, srE3_p0 opn w M m cap n h1 h0 hq⟩) (fun opn w M cap n h => ⟨_, srE0_p0 opn w M cap n h⟩)
      (fun opn w M m cap n hn hm hM hg h0 h1 hs hq => ⟨_, _, srC_p0 opn w M m cap n hn hm hM hg h0 h1 hq (fun hst => by
        cases n with
        | zero => omega
        | succ n =>
          cases m with
          | zero => omega
          | succ m => exact (sr_out opn w M (m + 1) cap n hn hm hM hg h0 hs hst).enter [true, true, false, false, true, true, true, true, false, false, false, false, false, false, false, false, false, false, false, false, false, false, false, false, false, false, false, false, false, false, false, false, false, false, false, false, false, false, false, false, false, false, false, false, false, false, false, false, false, false, false, false] (by kernel_rfl)), rfl, .inr rfl⟩) opn w M m cap n hM)
end Go.Lk
