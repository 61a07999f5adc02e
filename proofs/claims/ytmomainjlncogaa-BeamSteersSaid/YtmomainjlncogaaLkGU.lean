/- Steer's contracts; BeamSteers. -/
import Derived.Test.YtmomainjlncogaaLkGT
import Derived.Test.YtmomainjlncogaaLkK112
namespace Go.Lk
open Go.Proofs
set_option maxRecDepth 100000
set_option maxHeartbeats 0
set_option linter.unusedVariables false
set_option linter.unusedSimpArgs false
def sCh3 (fin : Nat → Nat → Bool) (z : Nat) (opn : Option Nat) (row : Nat → Nat → Nat → List Value) : HeapFn
  | [.int .i64 n, .float .f64 d, .float .f64 s], σ =>
    bif decide (n < 1) then some (chNil 2, σ) else bif decide (n > 64) then some (chNil 3, σ) else
      bif fin d s then some (chOk σ.length n.toNat z, σ ++ [.row (row n.toNat d s) true opn]) else some (chNil 6, σ)
  | _, _ => none
theorem sCh3_is {f : Nat} {fin : Nat → Nat → Bool} {z : Nat} {opn : Option Nat} {row : Nat → Nat → Nat → List Value} (hp : ∀ n d s, (row n d s).all plain = true)
    (hE : ∀ (n : Int) (d s : Nat), decide (n < 1) = true → CallR Try.prog false f [.int .i64 n, .float .f64 d, .float .f64 s] [] (chNil 2) [])
    (hF : ∀ (n : Int) (d s : Nat), decide (n < 1) = false → decide (n > 64) = true → CallR Try.prog false f [.int .i64 n, .float .f64 d, .float .f64 s] [] (chNil 3) [])
    (hG : ∀ (n : Int) (d s : Nat), decide (n < 1) = false → decide (n > 64) = false → fin d s = false → ∃ σ', CallR Try.prog false f [.int .i64 n, .float .f64 d, .float .f64 s] [] (chNil 6) σ')
    (hC : ∀ (n d s : Nat), 0 < n → n ≤ 64 → fin d s = true → ∃ L σ1, σ1[L]? = some (.row (row n d s) true opn) ∧ CallR Try.prog false f [.int .i64 (iN n), .float .f64 d, .float .f64 s] [] (chOk L n z) σ1) : IsHeap Try.prog false f false (sCh3 fin z opn row) := by
  have hnil : ∀ {n : Int} {d s : Nat} {c : Int} {σ σ1 : AHeap}, CallR Try.prog false f [.int .i64 n, .float .f64 d, .float .f64 s] [] (chNil c) σ1 → CallR Try.prog false f [.int .i64 n, .float .f64 d, .float .f64 s] σ (chNil c) σ := by
    intro n d s c σ σ1 h
    exact CallR.frameQ (r := fun k => k + σ.length) (args0 := [.int .i64 n, .float .f64 d, .float .f64 s]) (σ0 := []) ⟨fun k o hk => by simp at hk, fun k hk => by omega⟩ rfl h rfl
  refine ⟨fun args σ v σ' h => ?_, (by intro h; cases h), fun args σ v σ' h => ?_⟩
  · unfold sCh3 at h
    split at h
    · rename_i n d s
      cases h1 : decide (n < 1)
      · rw [h1] at h
        cases h2 : decide (n > 64)
        · rw [h2] at h
          cases h3 : fin d s
          · rw [h3] at h
            simp only [cond_false, Option.some.injEq, Prod.mk.injEq] at h
            obtain ⟨rfl, rfl⟩ := h
            obtain ⟨σ1, hg⟩ := hG n d s h1 h2 h3
            exact hnil hg
          · rw [h3] at h
            simp only [cond_false, cond_true, Option.some.injEq, Prod.mk.injEq] at h
            obtain ⟨rfl, rfl⟩ := h
            have g1 := of_decide_eq_false h1
            have g2 := of_decide_eq_false h2
            obtain ⟨L, σ1, hL, hc⟩ := hC n.toNat d s (by omega) (by omega) h3
            have e : iN n.toNat = n := by rw [iN_eq]; omega
            rw [e] at hc
            exact CallR.frameN (r := fun k => k + σ.length) (q := fun k => if k = σ.length then L else k + σ1.length) (args0 := [.int .i64 n, .float .f64 d, .float .f64 s]) (σ0 := []) ⟨fun k o hk => by simp at hk, fun k hk => by omega⟩ rfl hc (k := L) hL (hp _ _ _) (fun _ => rfl) (by simp [chOk, renV])
        · rw [h2] at h
          simp only [cond_false, cond_true, Option.some.injEq, Prod.mk.injEq] at h
          obtain ⟨rfl, rfl⟩ := h
          exact hnil (hF n d s h1 h2)
      · rw [h1] at h
        simp only [cond_true, Option.some.injEq, Prod.mk.injEq] at h
        obtain ⟨rfl, rfl⟩ := h
        exact hnil (hE n d s h1)
    · cases h
  · unfold sCh3 at h
    split at h
    · rename_i n d s
      revert h
      cases decide (n < 1) <;> cases decide (n > 64) <;> cases fin d s <;> simp only [cond_false, cond_true, Option.some.injEq, Prod.mk.injEq] <;> rintro ⟨_, rfl⟩ <;> simp
    · cases h
def wSt (n d s : Nat) : List Value := (rowOf (fun i => [.complex .f64 (wTurn_0 (stX (cStep_0 d s) i)) (wTurn_1 (stX (cStep_0 d s) i))]) n)
def rSt (n d s : Nat) : List Value := rowOf (fun i => [.float .f64 (rTurn_0 (stX (cRStep_0 d s) i)), .float .f64 (rTurn_1 (stX (cRStep_0 d s) i))]) n
theorem st_call (n d s : Nat) (h1 : 0 < n) (h2 : n ≤ 64) (h3 : (!(cNf_0 d || cNf_0 s)) = true) : ∃ L σ1, σ1[L]? = some (.row (wSt n d s) true none) ∧ CallR Try.prog false 111 [.int .i64 (iN n), .float .f64 d, .float .f64 s] [] (chOk L n 1) σ1 :=
  ⟨1, _, rfl, cSt_p0 n d s (decide_eq_false (by rw [iN_eq, Int.ofNat_eq_natCast]; omega)) (decide_eq_false (by rw [iN_eq, Int.ofNat_eq_natCast]; omega)) (by simpa using h3) (fun hst => by
    have h := st_loop n d s (cStep_0 d s) h2 hst
    unfold stHp at h
    rw [half2_zero, half2_full] at h
    exact h.enter [true, true, true, false, false, false, true, true, true, true, false, false, false, false, false, false, false, false, false, false, false, false, false, false, false, false, false, false, false, true, true, false, false, false, false, false, false, false, false, false, false, false, false] (by kernel_rfl))⟩
theorem rs_call (n d s : Nat) (h1 : 0 < n) (h2 : n ≤ 64) (h3 : (cRFin_0 d && cRFin_0 s) = true) : ∃ L σ1, σ1[L]? = some (.row (rSt n d s) true (some 2)) ∧ CallR Try.prog false 116 [.int .i64 (iN n), .float .f64 d, .float .f64 s] [] (chOk L n 2) σ1 := by
  rw [Bool.and_eq_true] at h3
  cases n with
  | zero => omega
  | succ n =>
    exact ⟨0, _, rfl, cRs_p0 (n + 1) d s (decide_eq_false (by rw [iN_eq, Int.ofNat_eq_natCast]; omega)) (decide_eq_false (by rw [iN_eq, Int.ofNat_eq_natCast]; omega)) h3.1 h3.2 (fun hst => (rs_loop n d s (cRStep_0 d s) h2 hst).enter [true, true, true, false, false, false, true, true, true, true, true, true, true, false, false, false, false, false, false, false, false, false, false, false, false, false, false, false, false, false, false, false, false, false, false, false, false, false, false, false, false, false, false, false, false, false] (by rw [h3.1, h3.2]; kernel_rfl))⟩
def stFin (d s : Nat) : Bool := !(cNf_0 d || cNf_0 s)
def rsFin (d s : Nat) : Bool := cRFin_0 d && cRFin_0 s
def sSteer : HeapFn := sCh3 stFin 1 none wSt
def sRSteer : HeapFn := sCh3 rsFin 2 (some 2) rSt
theorem sSteer_ok : IsHeap Try.prog false 111 false sSteer := sCh3_is (fun n d s => rowOf_all (fun _ => rfl) _) cStE_p0 cStF_p0 (fun n d s h1 h2 h3 => ⟨_, cStG_p0 n d s h1 h2 (by unfold stFin at h3; revert h3; cases cNf_0 d <;> cases cNf_0 s <;> simp)⟩) st_call
theorem sRSteer_ok : IsHeap Try.prog false 116 false sRSteer := sCh3_is (fun n d s => rowOf_all (fun _ => rfl) _) cRsE_p0 cRsF_p0 (fun n d s h1 h2 h3 => by
  cases h4 : cRFin_0 d
  · exact ⟨_, cRsG_p0 n d s h1 h2 h4⟩
  · exact ⟨_, cRsH_p0 n d s h1 h2 h4 (by unfold rsFin at h3; rw [h4] at h3; exact h3)⟩) rs_call
noncomputable def t9x : Tab := (((t9w.addH 111 false sSteer).addH 116 false sRSteer).addP 112 sWakes22)
theorem t9x_ok : t9x.Ok Try.prog false := (Tab.Ok.addP (Tab.Ok.addH (Tab.Ok.addH t9w_ok sSteer_ok) sRSteer_ok) sWakes22_ok)
noncomputable def LBS : Lib := ⟨Try.prog, false, t9x, [], []⟩
theorem LBS_fp : ∀ e, e ∈ LBS.pures → Try.prog.funcs[e.1]? = some e.2 := fs_nil
theorem LBS_fh : ∀ e, e ∈ LBS.heaps → Try.prog.funcs[e.1]? = some e.2.2 := gs_nil
theorem LBS_p1 (gp : Nat → PureFn) (g : Nat → HeapFn) : (LBS.pures.all fun e => fnOk (LBS.mk' gp g) e.2) = true := by kernel_rfl
theorem LBS_h1 (gp : Nat → PureFn) (g : Nat → HeapFn) : (LBS.heaps.all fun e => fnOk (LBS.mk' gp g) e.2.2 && (!e.2.1 || fnRo (LBS.mk' gp g) e.2.2)) = true := by kernel_rfl
theorem LBS_ok : LBS.Ok := ⟨t9x_ok, mixed, LBS_fp, LBS_fh, LBS_p1, LBS_h1⟩
noncomputable def dLBS : Cfg := LBS.cfg 100 4
theorem dLBS_ok : dLBS.Ok := LBS_ok.cfg 100 4

theorem bs_fok : fnOkX (dLBS) [] Try.f28 = true := by kernel_rfl
theorem bs_p0 (n : Nat) (d : Nat) (s : Nat) (s0 : sTold ([Value.slice (some { block := 1, off := 0, spot := some 1 }) n n, Value.slice (some { block := 2, off := 0, spot := some 1 }) n n, Value.int IntKind.i64 (Int.ofNat 0), Value.int IntKind.i64 (Int.ofNat 0), Value.slice (some { block := 0, off := 0, spot := some 2 }) n n, Value.int IntKind.i64 (Int.ofNat 0)]) ([AObj.row (rowOf (fun i => [Value.float FloatKind.f64 (wTurn_0 (stX (cStep_0 d s) i)), Value.float FloatKind.f64 (wTurn_1 (stX (cStep_0 d s) i))]) n) true (some 2), AObj.row (rowOf (fun i => [Value.complex FloatKind.f64 (wTurn_0 (stX (cStep_0 d s) i)) (wTurn_1 (stX (cStep_0 d s) i))]) n) true none, AObj.row (rowOf (fun i => [Value.complex FloatKind.f64 (wTurn_0 (stX (cStep_0 d s) i)) (wTurn_1 (stX (cStep_0 d s) i))]) n) true none]) = some (Value.bool true, [AObj.dead, AObj.dead, AObj.dead])) (s1 : sSteer ([Value.int IntKind.i64 (iN n), Value.float FloatKind.f64 d, Value.float FloatKind.f64 s]) ([AObj.row (rowOf (fun i => [Value.float FloatKind.f64 (wTurn_0 (stX (cStep_0 d s) i)), Value.float FloatKind.f64 (wTurn_1 (stX (cStep_0 d s) i))]) n) true (some 2), AObj.row (rowOf (fun i => [Value.complex FloatKind.f64 (wTurn_0 (stX (cStep_0 d s) i)) (wTurn_1 (stX (cStep_0 d s) i))]) n) true none]) = some (chOk 2 n 1, [AObj.row (rowOf (fun i => [Value.float FloatKind.f64 (wTurn_0 (stX (cStep_0 d s) i)), Value.float FloatKind.f64 (wTurn_1 (stX (cStep_0 d s) i))]) n) true (some 2), AObj.row (rowOf (fun i => [Value.complex FloatKind.f64 (wTurn_0 (stX (cStep_0 d s) i)) (wTurn_1 (stX (cStep_0 d s) i))]) n) true none, AObj.row (rowOf (fun i => [Value.complex FloatKind.f64 (wTurn_0 (stX (cStep_0 d s) i)) (wTurn_1 (stX (cStep_0 d s) i))]) n) true none])) (s2 : sSteer ([Value.int IntKind.i64 (iN n), Value.float FloatKind.f64 d, Value.float FloatKind.f64 s]) ([AObj.row (rowOf (fun i => [Value.float FloatKind.f64 (wTurn_0 (stX (cStep_0 d s) i)), Value.float FloatKind.f64 (wTurn_1 (stX (cStep_0 d s) i))]) n) true (some 2)]) = some (chOk 1 n 1, [AObj.row (rowOf (fun i => [Value.float FloatKind.f64 (wTurn_0 (stX (cStep_0 d s) i)), Value.float FloatKind.f64 (wTurn_1 (stX (cStep_0 d s) i))]) n) true (some 2), AObj.row (rowOf (fun i => [Value.complex FloatKind.f64 (wTurn_0 (stX (cStep_0 d s) i)) (wTurn_1 (stX (cStep_0 d s) i))]) n) true none])) (s3 : sRSteer ([Value.int IntKind.i64 (iN n), Value.float FloatKind.f64 d, Value.float FloatKind.f64 s]) ([]) = some (chOk 0 n 2, [AObj.row (rowOf (fun i => [Value.float FloatKind.f64 (wTurn_0 (stX (cStep_0 d s) i)), Value.float FloatKind.f64 (wTurn_1 (stX (cStep_0 d s) i))]) n) true (some 2)])) : CallR Try.prog false 28 ([Value.int IntKind.i64 (iN n), Value.float FloatKind.f64 d, Value.float FloatKind.f64 s]) ([]) (Value.bool true) ([AObj.dead, AObj.dead, AObj.dead]) := CallR.of_DOXs (C := dLBS) dLBS_ok (X := []) Try.func28 bs_fok (n := 3) (orc := [(9, Item.eff (chOk 0 n 2) [AObj.row (rowOf (fun i => [Value.float FloatKind.f64 (wTurn_0 (stX (cStep_0 d s) i)), Value.float FloatKind.f64 (wTurn_1 (stX (cStep_0 d s) i))]) n) true (some 2)]), (27, Item.eff (chOk 1 n 1) [AObj.row (rowOf (fun i => [Value.float FloatKind.f64 (wTurn_0 (stX (cStep_0 d s) i)), Value.float FloatKind.f64 (wTurn_1 (stX (cStep_0 d s) i))]) n) true (some 2), AObj.row (rowOf (fun i => [Value.complex FloatKind.f64 (wTurn_0 (stX (cStep_0 d s) i)) (wTurn_1 (stX (cStep_0 d s) i))]) n) true none]), (45, Item.eff (chOk 2 n 1) [AObj.row (rowOf (fun i => [Value.float FloatKind.f64 (wTurn_0 (stX (cStep_0 d s) i)), Value.float FloatKind.f64 (wTurn_1 (stX (cStep_0 d s) i))]) n) true (some 2), AObj.row (rowOf (fun i => [Value.complex FloatKind.f64 (wTurn_0 (stX (cStep_0 d s) i)) (wTurn_1 (stX (cStep_0 d s) i))]) n) true none, AObj.row (rowOf (fun i => [Value.complex FloatKind.f64 (wTurn_0 (stX (cStep_0 d s) i)) (wTurn_1 (stX (cStep_0 d s) i))]) n) true none]), (69, Item.eff (Value.bool true) [AObj.dead, AObj.dead, AObj.dead])]) (ps := [(sRSteer ([Value.int IntKind.i64 (iN n), Value.float FloatKind.f64 d, Value.float FloatKind.f64 s]) ([]) = some (chOk 0 n 2, [AObj.row (rowOf (fun i => [Value.float FloatKind.f64 (wTurn_0 (stX (cStep_0 d s) i)), Value.float FloatKind.f64 (wTurn_1 (stX (cStep_0 d s) i))]) n) true (some 2)])), (sSteer ([Value.int IntKind.i64 (iN n), Value.float FloatKind.f64 d, Value.float FloatKind.f64 s]) ([AObj.row (rowOf (fun i => [Value.float FloatKind.f64 (wTurn_0 (stX (cStep_0 d s) i)), Value.float FloatKind.f64 (wTurn_1 (stX (cStep_0 d s) i))]) n) true (some 2)]) = some (chOk 1 n 1, [AObj.row (rowOf (fun i => [Value.float FloatKind.f64 (wTurn_0 (stX (cStep_0 d s) i)), Value.float FloatKind.f64 (wTurn_1 (stX (cStep_0 d s) i))]) n) true (some 2), AObj.row (rowOf (fun i => [Value.complex FloatKind.f64 (wTurn_0 (stX (cStep_0 d s) i)) (wTurn_1 (stX (cStep_0 d s) i))]) n) true none])), (sSteer ([Value.int IntKind.i64 (iN n), Value.float FloatKind.f64 d, Value.float FloatKind.f64 s]) ([AObj.row (rowOf (fun i => [Value.float FloatKind.f64 (wTurn_0 (stX (cStep_0 d s) i)), Value.float FloatKind.f64 (wTurn_1 (stX (cStep_0 d s) i))]) n) true (some 2), AObj.row (rowOf (fun i => [Value.complex FloatKind.f64 (wTurn_0 (stX (cStep_0 d s) i)) (wTurn_1 (stX (cStep_0 d s) i))]) n) true none]) = some (chOk 2 n 1, [AObj.row (rowOf (fun i => [Value.float FloatKind.f64 (wTurn_0 (stX (cStep_0 d s) i)), Value.float FloatKind.f64 (wTurn_1 (stX (cStep_0 d s) i))]) n) true (some 2), AObj.row (rowOf (fun i => [Value.complex FloatKind.f64 (wTurn_0 (stX (cStep_0 d s) i)) (wTurn_1 (stX (cStep_0 d s) i))]) n) true none, AObj.row (rowOf (fun i => [Value.complex FloatKind.f64 (wTurn_0 (stX (cStep_0 d s) i)) (wTurn_1 (stX (cStep_0 d s) i))]) n) true none])), (sTold ([Value.slice (some { block := 1, off := 0, spot := some 1 }) n n, Value.slice (some { block := 2, off := 0, spot := some 1 }) n n, Value.int IntKind.i64 (Int.ofNat 0), Value.int IntKind.i64 (Int.ofNat 0), Value.slice (some { block := 0, off := 0, spot := some 2 }) n n, Value.int IntKind.i64 (Int.ofNat 0)]) ([AObj.row (rowOf (fun i => [Value.float FloatKind.f64 (wTurn_0 (stX (cStep_0 d s) i)), Value.float FloatKind.f64 (wTurn_1 (stX (cStep_0 d s) i))]) n) true (some 2), AObj.row (rowOf (fun i => [Value.complex FloatKind.f64 (wTurn_0 (stX (cStep_0 d s) i)) (wTurn_1 (stX (cStep_0 d s) i))]) n) true none, AObj.row (rowOf (fun i => [Value.complex FloatKind.f64 (wTurn_0 (stX (cStep_0 d s) i)) (wTurn_1 (stX (cStep_0 d s) i))]) n) true none]) = some (Value.bool true, [AObj.dead, AObj.dead, AObj.dead]))]) (by kernel_rfl) (fun hst => ⟨s3, ⟨s2, ⟨s1, ⟨s0, trivial⟩⟩⟩⟩)
theorem bsE2_fok : fnOkX (dLBS) [] Try.f28 = true := by kernel_rfl
theorem bsE2_p0 (n : Int) (d : Nat) (s : Nat) (s0 : sTold ([Value.slice none 0 0, Value.slice none 0 0, Value.int IntKind.i64 (Int.ofNat 2), Value.int IntKind.i64 (Int.ofNat 2), Value.slice none 0 0, Value.int IntKind.i64 (Int.ofNat 2)]) ([]) = some (Value.bool true, [])) (s1 : sSteer ([Value.int IntKind.i64 n, Value.float FloatKind.f64 d, Value.float FloatKind.f64 s]) ([]) = some (chNil 2, [])) (s2 : sSteer ([Value.int IntKind.i64 n, Value.float FloatKind.f64 d, Value.float FloatKind.f64 s]) ([]) = some (chNil 2, [])) (s3 : sRSteer ([Value.int IntKind.i64 n, Value.float FloatKind.f64 d, Value.float FloatKind.f64 s]) ([]) = some (chNil 2, [])) : CallR Try.prog false 28 ([Value.int IntKind.i64 n, Value.float FloatKind.f64 d, Value.float FloatKind.f64 s]) ([]) (Value.bool true) ([]) := CallR.of_DOXs (C := dLBS) dLBS_ok (X := []) Try.func28 bsE2_fok (n := 3) (orc := [(9, Item.eff (chNil 2) []), (27, Item.eff (chNil 2) []), (45, Item.eff (chNil 2) []), (69, Item.eff (Value.bool true) [])]) (ps := [(sRSteer ([Value.int IntKind.i64 n, Value.float FloatKind.f64 d, Value.float FloatKind.f64 s]) ([]) = some (chNil 2, [])), (sSteer ([Value.int IntKind.i64 n, Value.float FloatKind.f64 d, Value.float FloatKind.f64 s]) ([]) = some (chNil 2, [])), (sSteer ([Value.int IntKind.i64 n, Value.float FloatKind.f64 d, Value.float FloatKind.f64 s]) ([]) = some (chNil 2, [])), (sTold ([Value.slice none 0 0, Value.slice none 0 0, Value.int IntKind.i64 (Int.ofNat 2), Value.int IntKind.i64 (Int.ofNat 2), Value.slice none 0 0, Value.int IntKind.i64 (Int.ofNat 2)]) ([]) = some (Value.bool true, []))]) (by kernel_rfl) (fun hst => ⟨s3, ⟨s2, ⟨s1, ⟨s0, trivial⟩⟩⟩⟩)
theorem bsE3_fok : fnOkX (dLBS) [] Try.f28 = true := by kernel_rfl
theorem bsE3_p0 (n : Int) (d : Nat) (s : Nat) (s0 : sTold ([Value.slice none 0 0, Value.slice none 0 0, Value.int IntKind.i64 (Int.ofNat 3), Value.int IntKind.i64 (Int.ofNat 3), Value.slice none 0 0, Value.int IntKind.i64 (Int.ofNat 3)]) ([]) = some (Value.bool true, [])) (s1 : sSteer ([Value.int IntKind.i64 n, Value.float FloatKind.f64 d, Value.float FloatKind.f64 s]) ([]) = some (chNil 3, [])) (s2 : sSteer ([Value.int IntKind.i64 n, Value.float FloatKind.f64 d, Value.float FloatKind.f64 s]) ([]) = some (chNil 3, [])) (s3 : sRSteer ([Value.int IntKind.i64 n, Value.float FloatKind.f64 d, Value.float FloatKind.f64 s]) ([]) = some (chNil 3, [])) : CallR Try.prog false 28 ([Value.int IntKind.i64 n, Value.float FloatKind.f64 d, Value.float FloatKind.f64 s]) ([]) (Value.bool true) ([]) := CallR.of_DOXs (C := dLBS) dLBS_ok (X := []) Try.func28 bsE3_fok (n := 3) (orc := [(9, Item.eff (chNil 3) []), (27, Item.eff (chNil 3) []), (45, Item.eff (chNil 3) []), (69, Item.eff (Value.bool true) [])]) (ps := [(sRSteer ([Value.int IntKind.i64 n, Value.float FloatKind.f64 d, Value.float FloatKind.f64 s]) ([]) = some (chNil 3, [])), (sSteer ([Value.int IntKind.i64 n, Value.float FloatKind.f64 d, Value.float FloatKind.f64 s]) ([]) = some (chNil 3, [])), (sSteer ([Value.int IntKind.i64 n, Value.float FloatKind.f64 d, Value.float FloatKind.f64 s]) ([]) = some (chNil 3, [])), (sTold ([Value.slice none 0 0, Value.slice none 0 0, Value.int IntKind.i64 (Int.ofNat 3), Value.int IntKind.i64 (Int.ofNat 3), Value.slice none 0 0, Value.int IntKind.i64 (Int.ofNat 3)]) ([]) = some (Value.bool true, []))]) (by kernel_rfl) (fun hst => ⟨s3, ⟨s2, ⟨s1, ⟨s0, trivial⟩⟩⟩⟩)
theorem bsE6_fok : fnOkX (dLBS) [] Try.f28 = true := by kernel_rfl
theorem bsE6_p0 (n : Int) (d : Nat) (s : Nat) (s0 : sTold ([Value.slice none 0 0, Value.slice none 0 0, Value.int IntKind.i64 (Int.ofNat 6), Value.int IntKind.i64 (Int.ofNat 6), Value.slice none 0 0, Value.int IntKind.i64 (Int.ofNat 6)]) ([]) = some (Value.bool true, [])) (s1 : sSteer ([Value.int IntKind.i64 n, Value.float FloatKind.f64 d, Value.float FloatKind.f64 s]) ([]) = some (chNil 6, [])) (s2 : sSteer ([Value.int IntKind.i64 n, Value.float FloatKind.f64 d, Value.float FloatKind.f64 s]) ([]) = some (chNil 6, [])) (s3 : sRSteer ([Value.int IntKind.i64 n, Value.float FloatKind.f64 d, Value.float FloatKind.f64 s]) ([]) = some (chNil 6, [])) : CallR Try.prog false 28 ([Value.int IntKind.i64 n, Value.float FloatKind.f64 d, Value.float FloatKind.f64 s]) ([]) (Value.bool true) ([]) := CallR.of_DOXs (C := dLBS) dLBS_ok (X := []) Try.func28 bsE6_fok (n := 3) (orc := [(9, Item.eff (chNil 6) []), (27, Item.eff (chNil 6) []), (45, Item.eff (chNil 6) []), (69, Item.eff (Value.bool true) [])]) (ps := [(sRSteer ([Value.int IntKind.i64 n, Value.float FloatKind.f64 d, Value.float FloatKind.f64 s]) ([]) = some (chNil 6, [])), (sSteer ([Value.int IntKind.i64 n, Value.float FloatKind.f64 d, Value.float FloatKind.f64 s]) ([]) = some (chNil 6, [])), (sSteer ([Value.int IntKind.i64 n, Value.float FloatKind.f64 d, Value.float FloatKind.f64 s]) ([]) = some (chNil 6, [])), (sTold ([Value.slice none 0 0, Value.slice none 0 0, Value.int IntKind.i64 (Int.ofNat 6), Value.int IntKind.i64 (Int.ofNat 6), Value.slice none 0 0, Value.int IntKind.i64 (Int.ofNat 6)]) ([]) = some (Value.bool true, []))]) (by kernel_rfl) (fun hst => ⟨s3, ⟨s2, ⟨s1, ⟨s0, trivial⟩⟩⟩⟩)
theorem nf_test {x : Nat} (h : Canon x) : cNf_0 x = !isFin x := by
  unfold cNf_0
  rw [fin_test h]
theorem stFin_eq {d s : Nat} (hd : Canon d) (hs : Canon s) : stFin d s = (isFin d && isFin s) := by
  unfold stFin; rw [nf_test hd, nf_test hs]; cases isFin d <;> cases isFin s <;> rfl
theorem rsFin_eq {d s : Nat} (hd : Canon d) (hs : Canon s) : rsFin d s = (isFin d && isFin s) := by
  unfold rsFin; rw [rfin_test hd, rfin_test hs]
theorem rSt_eq {n d s : Nat} (hs : Canon s) : rSt n d s = (rowOf (fun i => [.float .f64 (wTurn_0 (stX (cStep_0 d s) i)), .float .f64 (wTurn_1 (stX (cStep_0 d s) i))]) n) := by
  unfold rSt
  have e : cRStep_0 d s = cStep_0 d s := by unfold cRStep_0 cStep_0; rw [turn_im hs]
  rw [e]
  refine rowOf_congr fun i _ => ?_
  rw [turn_re (x := stX (cStep_0 d s) i) (Canon.fmul _ _), turn_im (x := stX (cStep_0 d s) i) (Canon.fmul _ _)]
theorem beamSteers_call (n : Int) {d s : Nat} (hd : Canon d) (hs : Canon s) : CallR Try.prog false 28 [.int .i64 n, .float .f64 d, .float .f64 s] [] (.bool true) [] := by
  have hf := stFin_eq hd hs
  have hr := rsFin_eq hd hs
  cases h1 : decide (n < 1)
  · cases h2 : decide (n > 64)
    · cases h3 : (isFin d && isFin s)
      · have c1 : ∀ σ, sSteer [.int .i64 n, .float .f64 d, .float .f64 s] σ = some (chNil 6, σ) := fun σ => by unfold sSteer sCh3; simp only [h1, h2, hf, h3, cond_false]
        have c2 : ∀ σ, sRSteer [.int .i64 n, .float .f64 d, .float .f64 s] σ = some (chNil 6, σ) := fun σ => by unfold sRSteer sCh3; simp only [h1, h2, hr, h3, cond_false]
        exact bsE6_p0 n d s (sTold_err 6 (by simp)) (c1 _) (c1 _) (c2 _)
      · have g1 := of_decide_eq_false h1
        have g2 := of_decide_eq_false h2
        obtain ⟨m, rfl⟩ : ∃ m : Nat, n = iN m := ⟨n.toNat, by rw [iN_eq]; omega⟩
        have hm : 0 < m ∧ m ≤ 64 := by rw [iN_eq] at g1 g2; omega
        have c1 : ∀ σ, sSteer [.int .i64 (iN m), .float .f64 d, .float .f64 s] σ = some (chOk σ.length m 1, σ ++ [.row (wSt m d s) true none]) := fun σ => by unfold sSteer sCh3; simp only [h1, h2, hf, h3, cond_false, cond_true]; rfl
        have c2 : ∀ σ, sRSteer [.int .i64 (iN m), .float .f64 d, .float .f64 s] σ = some (chOk σ.length m 2, σ ++ [.row (rSt m d s) true (some 2)]) := fun σ => by unfold sRSteer sCh3; simp only [h1, h2, hr, h3, cond_false, cond_true]; rfl
        rw [rSt_eq hs] at c2
        exact (bs_p0 m d s (sTold_ok_at (some 2) (fun i => wTurn_0 (stX (cStep_0 d s) i)) (fun i => wTurn_1 (stX (cStep_0 d s) i)) (fun i => wTurn_0 (stX (cStep_0 d s) i)) (fun i => wTurn_1 (stX (cStep_0 d s) i)) (fun i => wTurn_0 (stX (cStep_0 d s) i)) (fun i => wTurn_1 (stX (cStep_0 d s) i)) m hm.1 (by omega) (fun i _ => same_refl _ _) (fun i _ => same_refl _ _)) (c1 _) (c1 _) (c2 _)).drop rfl
    · have c1 : ∀ σ, sSteer [.int .i64 n, .float .f64 d, .float .f64 s] σ = some (chNil 3, σ) := fun σ => by unfold sSteer sCh3; simp only [h1, h2, cond_false, cond_true]
      have c2 : ∀ σ, sRSteer [.int .i64 n, .float .f64 d, .float .f64 s] σ = some (chNil 3, σ) := fun σ => by unfold sRSteer sCh3; simp only [h1, h2, cond_false, cond_true]
      exact bsE3_p0 n d s (sTold_err 3 (by simp)) (c1 _) (c1 _) (c2 _)
  · have c1 : ∀ σ, sSteer [.int .i64 n, .float .f64 d, .float .f64 s] σ = some (chNil 2, σ) := fun σ => by unfold sSteer sCh3; simp only [h1, cond_true]
    have c2 : ∀ σ, sRSteer [.int .i64 n, .float .f64 d, .float .f64 s] σ = some (chNil 2, σ) := fun σ => by unfold sRSteer sCh3; simp only [h1, cond_true]
    exact bsE2_p0 n d s (sTold_err 2 (by simp)) (c1 _) (c1 _) (c2 _)
end Go.Lk
