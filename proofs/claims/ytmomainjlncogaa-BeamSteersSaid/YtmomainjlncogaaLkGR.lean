/- told's contract; PulseChirps. -/
import Derived.Test.YtmomainjlncogaaLkGO
namespace Go.Lk
open Go.Proofs
set_option maxRecDepth 100000
set_option maxHeartbeats 0
set_option linter.unusedVariables false
set_option linter.unusedSimpArgs false
def pRow (c d : Nat → Nat) (n : Nat) : List Value := rowOf (fun i => [.float .f64 (c i), .float .f64 (d i)]) n
def xRow (a b : Nat → Nat) (n : Nat) : List Value := rowOf (fun i => [.complex .f64 (a i) (b i)]) n
def tdArgs (n : Nat) : List Value := [.slice (some ⟨1, 0, some 1⟩) n n, .slice (some ⟨2, 0, some 1⟩) n n, .int .i64 0, .int .i64 0, .slice (some ⟨0, 0, some 2⟩) n n, .int .i64 0]
def tdHeap (o0 : Option Nat) (a b a2 b2 c d : Nat → Nat) (n : Nat) : AHeap := [.row (pRow c d n) true o0, .row (xRow a b n) true none, .row (xRow a2 b2 n) true none]
def tdArgsE (e : Int) : List Value := [.slice none 0 0, .slice none 0 0, .int .i64 e, .int .i64 e, .slice none 0 0, .int .i64 e]
def TdOk (args : List Value) (σ : AHeap) : Prop :=
  (∃ o0 a b a2 b2 c d n, 0 < n ∧ n ≤ 16384 ∧ (∀ i, i < n → gSame_0 (a i) (b i) (c i) (d i) = true) ∧ (∀ i, i < n → gSame_0 (a2 i) (b2 i) (c i) (d i) = true) ∧ args = tdArgs n ∧ σ = tdHeap o0 a b a2 b2 c d n) ∨
  (∃ e : Int, (e = 2 ∨ e = 3 ∨ e = 6) ∧ args = tdArgsE e)
open Classical in
noncomputable def sTold : HeapFn := fun args σ => if TdOk args σ then some (.bool true, σ.map fun _ => .dead) else none
theorem sTold_is {f : Nat}
    (hS : ∀ o0 a b a2 b2 c d n, 0 < n → n ≤ 16384 → (∀ i, i < n → gSame_0 (a i) (b i) (c i) (d i) = true) → (∀ i, i < n → gSame_0 (a2 i) (b2 i) (c i) (d i) = true) → ∃ σ', CallR Try.prog false f (tdArgs n) (tdHeap o0 a b a2 b2 c d n) (.bool true) σ')
    (hE : ∀ e : Int, (e = 2 ∨ e = 3 ∨ e = 6) → ∃ σ', CallR Try.prog false f (tdArgsE e) [] (.bool true) σ') : IsHeap Try.prog false f false sTold := by
  refine ⟨fun args σ v σ' h => ?_, (by intro h; cases h), fun args σ v σ' h => ?_⟩
  · unfold sTold at h
    split at h
    · rename_i hx
      cases h
      rcases hx with ⟨o0, a, b, a2, b2, c, d, n, h0, hn, h1, h2, rfl, rfl⟩ | ⟨e, he, rfl⟩
      · obtain ⟨σ1, hc⟩ := hS o0 a b a2 b2 c d n h0 hn h1 h2
        exact hc.drop rfl
      · obtain ⟨σ1, hc⟩ := hE e he
        have h2 := CallR.frameQ (σ := σ) (r := fun k => k + σ.length) (args0 := tdArgsE e) (σ0 := []) ⟨fun k o hk => by simp at hk, fun k hk => by omega⟩ rfl hc rfl
        exact h2.drop rfl
    · cases h
  · unfold sTold at h
    split at h
    · cases h; simp
    · cases h
theorem sTold_ok_at (o0 : Option Nat) (a b a2 b2 c d : Nat → Nat) (n : Nat) (h0 : 0 < n) (hn : n ≤ 16384) (h1 : ∀ i, i < n → gSame_0 (a i) (b i) (c i) (d i) = true) (h2 : ∀ i, i < n → gSame_0 (a2 i) (b2 i) (c i) (d i) = true) :
    sTold (tdArgs n) (tdHeap o0 a b a2 b2 c d n) = some (.bool true, [.dead, .dead, .dead]) := by
  unfold sTold
  rw [if_pos (show TdOk _ _ from Or.inl ⟨o0, a, b, a2, b2, c, d, n, h0, hn, h1, h2, rfl, rfl⟩)]
  rfl
theorem sTold_err (e : Int) (he : e = 2 ∨ e = 3 ∨ e = 6) : sTold (tdArgsE e) [] = some (.bool true, []) := by
  unfold sTold
  rw [if_pos (show TdOk _ _ from Or.inr ⟨e, he, rfl⟩)]
  rfl
theorem t4_call (o0 : Option Nat) (a b a2 b2 c d : Nat → Nat) (n : Nat) (h0 : 0 < n) (hn : n ≤ 16384) (h1 : ∀ i, i < n → gSame_0 (a i) (b i) (c i) (d i) = true) (h2 : ∀ i, i < n → gSame_0 (a2 i) (b2 i) (c i) (d i) = true) : ∃ σ', CallR Try.prog false 67 (tdArgs n) (tdHeap o0 a b a2 b2 c d n) (.bool true) σ' := by
  have h := t4g_p0 o0 a b a2 b2 c d n h0 hn h1 h2 (fun hst => by
      have h := t4_loop1 o0 a b a2 b2 c d n h0 hn hst.nil
      exact h.enter [true, true, true, true, true, true, false, false, false, false, false, false, true, true, true, false, false, false, false, false, false, false, false, false, false, false, false, false, false, false, false, false, false, false, false, false, false, false, false, false, false, false, false, false, false, false, false, false, false, false, false, false, false, false, false, false, false, false, false, false, false, false] (by kernel_rfl)) (fun hst => by
      have h := t4_loop0 o0 a b a2 b2 c d n h0 hn hst.nil
      rw [tdH12] at h
      unfold tdH1 tdH2 at h
      rw [half2_zero] at h
      exact h.enter [true, true, true, true, true, true, false, false, false, false, false, false, true, true, false, false, false, false, false, false, false, false, false, false, false, false, false, false, false, false, false, false, false, false, false, false, false, false, false, false, false, false, false, false, false, false, false, false, false, false, false, false, false, false, false, false, false, false, false, false, false, false] (by kernel_rfl))
  rw [beq_self_eq_true] at h
  exact ⟨_, h⟩
theorem t4_err (e : Int) (he : e = 2 ∨ e = 3 ∨ e = 6) : ∃ σ', CallR Try.prog false 67 (tdArgsE e) [] (.bool true) σ' := by
  rcases he with rfl | rfl | rfl
  · exact ⟨_, t4e2_p0⟩
  · exact ⟨_, t4e3_p0⟩
  · exact ⟨_, t4e6_p0⟩
theorem t4Told_ok : IsHeap Try.prog false 67 false sTold := sTold_is t4_call t4_err
theorem t22_call (o0 : Option Nat) (a b a2 b2 c d : Nat → Nat) (n : Nat) (h0 : 0 < n) (hn : n ≤ 16384) (h1 : ∀ i, i < n → gSame_0 (a i) (b i) (c i) (d i) = true) (h2 : ∀ i, i < n → gSame_0 (a2 i) (b2 i) (c i) (d i) = true) : ∃ σ', CallR Try.prog false 117 (tdArgs n) (tdHeap o0 a b a2 b2 c d n) (.bool true) σ' := by
  have h := t22g_p0 o0 a b a2 b2 c d n h0 hn h1 h2 (fun hst => by
      have h := t22_loop1 o0 a b a2 b2 c d n h0 hn hst.nil
      exact h.enter [true, true, true, true, true, true, false, false, false, false, false, false, true, true, true, false, false, false, false, false, false, false, false, false, false, false, false, false, false, false, false, false, false, false, false, false, false, false, false, false, false, false, false, false, false, false, false, false, false, false, false, false, false, false, false, false, false, false, false, false, false, false] (by kernel_rfl)) (fun hst => by
      have h := t22_loop0 o0 a b a2 b2 c d n h0 hn hst.nil
      rw [tdH12] at h
      unfold tdH1 tdH2 at h
      rw [half2_zero] at h
      exact h.enter [true, true, true, true, true, true, false, false, false, false, false, false, true, true, false, false, false, false, false, false, false, false, false, false, false, false, false, false, false, false, false, false, false, false, false, false, false, false, false, false, false, false, false, false, false, false, false, false, false, false, false, false, false, false, false, false, false, false, false, false, false, false] (by kernel_rfl))
  rw [beq_self_eq_true] at h
  exact ⟨_, h⟩
theorem t22_err (e : Int) (he : e = 2 ∨ e = 3 ∨ e = 6) : ∃ σ', CallR Try.prog false 117 (tdArgsE e) [] (.bool true) σ' := by
  rcases he with rfl | rfl | rfl
  · exact ⟨_, t22e2_p0⟩
  · exact ⟨_, t22e3_p0⟩
  · exact ⟨_, t22e6_p0⟩
theorem t22Told_ok : IsHeap Try.prog false 117 false sTold := sTold_is t22_call t22_err
noncomputable def t9s : Tab := (((((t9r.addH 65 false sRChirp).addH 66 false sChirp).addH 67 false sTold).addH 117 false sTold).addP 64 sWakes)
theorem t9s_ok : t9s.Ok Try.prog false := (Tab.Ok.addP (Tab.Ok.addH (Tab.Ok.addH (Tab.Ok.addH (Tab.Ok.addH t9r_ok sRChirp_ok) sChirp_ok) t4Told_ok) t22Told_ok) sWakes_ok)
noncomputable def LPC : Lib := ⟨Try.prog, false, t9s, [], []⟩
theorem LPC_fp : ∀ e, e ∈ LPC.pures → Try.prog.funcs[e.1]? = some e.2 := fs_nil
theorem LPC_fh : ∀ e, e ∈ LPC.heaps → Try.prog.funcs[e.1]? = some e.2.2 := gs_nil
theorem LPC_p1 (gp : Nat → PureFn) (g : Nat → HeapFn) : (LPC.pures.all fun e => fnOk (LPC.mk' gp g) e.2) = true := by kernel_rfl
theorem LPC_h1 (gp : Nat → PureFn) (g : Nat → HeapFn) : (LPC.heaps.all fun e => fnOk (LPC.mk' gp g) e.2.2 && (!e.2.1 || fnRo (LPC.mk' gp g) e.2.2)) = true := by kernel_rfl
theorem LPC_ok : LPC.Ok := ⟨t9s_ok, mixed, LPC_fp, LPC_fh, LPC_p1, LPC_h1⟩
noncomputable def dLPC : Cfg := LPC.cfg 100 4
theorem dLPC_ok : dLPC.Ok := LPC_ok.cfg 100 4

theorem pc_fok : fnOkX (dLPC) [] Try.f13 = true := by kernel_rfl
theorem pc_p0 (n : Nat) (v : Nat) (s0 : sTold ([Value.slice (some { block := 1, off := 0, spot := some 1 }) n n, Value.slice (some { block := 2, off := 0, spot := some 1 }) n n, Value.int IntKind.i64 (Int.ofNat 0), Value.int IntKind.i64 (Int.ofNat 0), Value.slice (some { block := 0, off := 0, spot := some 2 }) n n, Value.int IntKind.i64 (Int.ofNat 0)]) ([AObj.row (rowOf (fun i => [Value.float FloatKind.f64 (wTurn_0 (chX n v i)), Value.float FloatKind.f64 (wTurn_1 (chX n v i))]) n) true (some 2), AObj.row (rowOf (fun i => [Value.complex FloatKind.f64 (wTurn_0 (chX n v i)) (wTurn_1 (chX n v i))]) n) true none, AObj.row (rowOf (fun i => [Value.complex FloatKind.f64 (wTurn_0 (chX n v i)) (wTurn_1 (chX n v i))]) n) true none]) = some (Value.bool true, [AObj.dead, AObj.dead, AObj.dead])) (s1 : sChirp ([Value.int IntKind.i64 (iN n), Value.float FloatKind.f64 v]) ([AObj.row (rowOf (fun i => [Value.float FloatKind.f64 (wTurn_0 (chX n v i)), Value.float FloatKind.f64 (wTurn_1 (chX n v i))]) n) true (some 2), AObj.row (rowOf (fun i => [Value.complex FloatKind.f64 (wTurn_0 (chX n v i)) (wTurn_1 (chX n v i))]) n) true none]) = some (chOk 2 n 1, [AObj.row (rowOf (fun i => [Value.float FloatKind.f64 (wTurn_0 (chX n v i)), Value.float FloatKind.f64 (wTurn_1 (chX n v i))]) n) true (some 2), AObj.row (rowOf (fun i => [Value.complex FloatKind.f64 (wTurn_0 (chX n v i)) (wTurn_1 (chX n v i))]) n) true none, AObj.row (rowOf (fun i => [Value.complex FloatKind.f64 (wTurn_0 (chX n v i)) (wTurn_1 (chX n v i))]) n) true none])) (s2 : sChirp ([Value.int IntKind.i64 (iN n), Value.float FloatKind.f64 v]) ([AObj.row (rowOf (fun i => [Value.float FloatKind.f64 (wTurn_0 (chX n v i)), Value.float FloatKind.f64 (wTurn_1 (chX n v i))]) n) true (some 2)]) = some (chOk 1 n 1, [AObj.row (rowOf (fun i => [Value.float FloatKind.f64 (wTurn_0 (chX n v i)), Value.float FloatKind.f64 (wTurn_1 (chX n v i))]) n) true (some 2), AObj.row (rowOf (fun i => [Value.complex FloatKind.f64 (wTurn_0 (chX n v i)) (wTurn_1 (chX n v i))]) n) true none])) (s3 : sRChirp ([Value.int IntKind.i64 (iN n), Value.float FloatKind.f64 v]) ([]) = some (chOk 0 n 2, [AObj.row (rowOf (fun i => [Value.float FloatKind.f64 (wTurn_0 (chX n v i)), Value.float FloatKind.f64 (wTurn_1 (chX n v i))]) n) true (some 2)])) : CallR Try.prog false 13 ([Value.int IntKind.i64 (iN n), Value.float FloatKind.f64 v]) ([]) (Value.bool true) ([AObj.dead, AObj.dead, AObj.dead]) := CallR.of_DOXs (C := dLPC) dLPC_ok (X := []) Try.func13 pc_fok (n := 3) (orc := [(7, Item.eff (chOk 0 n 2) [AObj.row (rowOf (fun i => [Value.float FloatKind.f64 (wTurn_0 (chX n v i)), Value.float FloatKind.f64 (wTurn_1 (chX n v i))]) n) true (some 2)]), (23, Item.eff (chOk 1 n 1) [AObj.row (rowOf (fun i => [Value.float FloatKind.f64 (wTurn_0 (chX n v i)), Value.float FloatKind.f64 (wTurn_1 (chX n v i))]) n) true (some 2), AObj.row (rowOf (fun i => [Value.complex FloatKind.f64 (wTurn_0 (chX n v i)) (wTurn_1 (chX n v i))]) n) true none]), (39, Item.eff (chOk 2 n 1) [AObj.row (rowOf (fun i => [Value.float FloatKind.f64 (wTurn_0 (chX n v i)), Value.float FloatKind.f64 (wTurn_1 (chX n v i))]) n) true (some 2), AObj.row (rowOf (fun i => [Value.complex FloatKind.f64 (wTurn_0 (chX n v i)) (wTurn_1 (chX n v i))]) n) true none, AObj.row (rowOf (fun i => [Value.complex FloatKind.f64 (wTurn_0 (chX n v i)) (wTurn_1 (chX n v i))]) n) true none]), (63, Item.eff (Value.bool true) [AObj.dead, AObj.dead, AObj.dead])]) (ps := [(sRChirp ([Value.int IntKind.i64 (iN n), Value.float FloatKind.f64 v]) ([]) = some (chOk 0 n 2, [AObj.row (rowOf (fun i => [Value.float FloatKind.f64 (wTurn_0 (chX n v i)), Value.float FloatKind.f64 (wTurn_1 (chX n v i))]) n) true (some 2)])), (sChirp ([Value.int IntKind.i64 (iN n), Value.float FloatKind.f64 v]) ([AObj.row (rowOf (fun i => [Value.float FloatKind.f64 (wTurn_0 (chX n v i)), Value.float FloatKind.f64 (wTurn_1 (chX n v i))]) n) true (some 2)]) = some (chOk 1 n 1, [AObj.row (rowOf (fun i => [Value.float FloatKind.f64 (wTurn_0 (chX n v i)), Value.float FloatKind.f64 (wTurn_1 (chX n v i))]) n) true (some 2), AObj.row (rowOf (fun i => [Value.complex FloatKind.f64 (wTurn_0 (chX n v i)) (wTurn_1 (chX n v i))]) n) true none])), (sChirp ([Value.int IntKind.i64 (iN n), Value.float FloatKind.f64 v]) ([AObj.row (rowOf (fun i => [Value.float FloatKind.f64 (wTurn_0 (chX n v i)), Value.float FloatKind.f64 (wTurn_1 (chX n v i))]) n) true (some 2), AObj.row (rowOf (fun i => [Value.complex FloatKind.f64 (wTurn_0 (chX n v i)) (wTurn_1 (chX n v i))]) n) true none]) = some (chOk 2 n 1, [AObj.row (rowOf (fun i => [Value.float FloatKind.f64 (wTurn_0 (chX n v i)), Value.float FloatKind.f64 (wTurn_1 (chX n v i))]) n) true (some 2), AObj.row (rowOf (fun i => [Value.complex FloatKind.f64 (wTurn_0 (chX n v i)) (wTurn_1 (chX n v i))]) n) true none, AObj.row (rowOf (fun i => [Value.complex FloatKind.f64 (wTurn_0 (chX n v i)) (wTurn_1 (chX n v i))]) n) true none])), (sTold ([Value.slice (some { block := 1, off := 0, spot := some 1 }) n n, Value.slice (some { block := 2, off := 0, spot := some 1 }) n n, Value.int IntKind.i64 (Int.ofNat 0), Value.int IntKind.i64 (Int.ofNat 0), Value.slice (some { block := 0, off := 0, spot := some 2 }) n n, Value.int IntKind.i64 (Int.ofNat 0)]) ([AObj.row (rowOf (fun i => [Value.float FloatKind.f64 (wTurn_0 (chX n v i)), Value.float FloatKind.f64 (wTurn_1 (chX n v i))]) n) true (some 2), AObj.row (rowOf (fun i => [Value.complex FloatKind.f64 (wTurn_0 (chX n v i)) (wTurn_1 (chX n v i))]) n) true none, AObj.row (rowOf (fun i => [Value.complex FloatKind.f64 (wTurn_0 (chX n v i)) (wTurn_1 (chX n v i))]) n) true none]) = some (Value.bool true, [AObj.dead, AObj.dead, AObj.dead]))]) (by kernel_rfl) (fun hst => ⟨s3, ⟨s2, ⟨s1, ⟨s0, trivial⟩⟩⟩⟩)
theorem pcE2_fok : fnOkX (dLPC) [] Try.f13 = true := by kernel_rfl
theorem pcE2_p0 (n : Int) (v : Nat) (s0 : sTold ([Value.slice none 0 0, Value.slice none 0 0, Value.int IntKind.i64 (Int.ofNat 2), Value.int IntKind.i64 (Int.ofNat 2), Value.slice none 0 0, Value.int IntKind.i64 (Int.ofNat 2)]) ([]) = some (Value.bool true, [])) (s1 : sChirp ([Value.int IntKind.i64 n, Value.float FloatKind.f64 v]) ([]) = some (chNil 2, [])) (s2 : sChirp ([Value.int IntKind.i64 n, Value.float FloatKind.f64 v]) ([]) = some (chNil 2, [])) (s3 : sRChirp ([Value.int IntKind.i64 n, Value.float FloatKind.f64 v]) ([]) = some (chNil 2, [])) : CallR Try.prog false 13 ([Value.int IntKind.i64 n, Value.float FloatKind.f64 v]) ([]) (Value.bool true) ([]) := CallR.of_DOXs (C := dLPC) dLPC_ok (X := []) Try.func13 pcE2_fok (n := 3) (orc := [(7, Item.eff (chNil 2) []), (23, Item.eff (chNil 2) []), (39, Item.eff (chNil 2) []), (63, Item.eff (Value.bool true) [])]) (ps := [(sRChirp ([Value.int IntKind.i64 n, Value.float FloatKind.f64 v]) ([]) = some (chNil 2, [])), (sChirp ([Value.int IntKind.i64 n, Value.float FloatKind.f64 v]) ([]) = some (chNil 2, [])), (sChirp ([Value.int IntKind.i64 n, Value.float FloatKind.f64 v]) ([]) = some (chNil 2, [])), (sTold ([Value.slice none 0 0, Value.slice none 0 0, Value.int IntKind.i64 (Int.ofNat 2), Value.int IntKind.i64 (Int.ofNat 2), Value.slice none 0 0, Value.int IntKind.i64 (Int.ofNat 2)]) ([]) = some (Value.bool true, []))]) (by kernel_rfl) (fun hst => ⟨s3, ⟨s2, ⟨s1, ⟨s0, trivial⟩⟩⟩⟩)
theorem pcE3_fok : fnOkX (dLPC) [] Try.f13 = true := by kernel_rfl
theorem pcE3_p0 (n : Int) (v : Nat) (s0 : sTold ([Value.slice none 0 0, Value.slice none 0 0, Value.int IntKind.i64 (Int.ofNat 3), Value.int IntKind.i64 (Int.ofNat 3), Value.slice none 0 0, Value.int IntKind.i64 (Int.ofNat 3)]) ([]) = some (Value.bool true, [])) (s1 : sChirp ([Value.int IntKind.i64 n, Value.float FloatKind.f64 v]) ([]) = some (chNil 3, [])) (s2 : sChirp ([Value.int IntKind.i64 n, Value.float FloatKind.f64 v]) ([]) = some (chNil 3, [])) (s3 : sRChirp ([Value.int IntKind.i64 n, Value.float FloatKind.f64 v]) ([]) = some (chNil 3, [])) : CallR Try.prog false 13 ([Value.int IntKind.i64 n, Value.float FloatKind.f64 v]) ([]) (Value.bool true) ([]) := CallR.of_DOXs (C := dLPC) dLPC_ok (X := []) Try.func13 pcE3_fok (n := 3) (orc := [(7, Item.eff (chNil 3) []), (23, Item.eff (chNil 3) []), (39, Item.eff (chNil 3) []), (63, Item.eff (Value.bool true) [])]) (ps := [(sRChirp ([Value.int IntKind.i64 n, Value.float FloatKind.f64 v]) ([]) = some (chNil 3, [])), (sChirp ([Value.int IntKind.i64 n, Value.float FloatKind.f64 v]) ([]) = some (chNil 3, [])), (sChirp ([Value.int IntKind.i64 n, Value.float FloatKind.f64 v]) ([]) = some (chNil 3, [])), (sTold ([Value.slice none 0 0, Value.slice none 0 0, Value.int IntKind.i64 (Int.ofNat 3), Value.int IntKind.i64 (Int.ofNat 3), Value.slice none 0 0, Value.int IntKind.i64 (Int.ofNat 3)]) ([]) = some (Value.bool true, []))]) (by kernel_rfl) (fun hst => ⟨s3, ⟨s2, ⟨s1, ⟨s0, trivial⟩⟩⟩⟩)
theorem pcE6_fok : fnOkX (dLPC) [] Try.f13 = true := by kernel_rfl
theorem pcE6_p0 (n : Int) (v : Nat) (s0 : sTold ([Value.slice none 0 0, Value.slice none 0 0, Value.int IntKind.i64 (Int.ofNat 6), Value.int IntKind.i64 (Int.ofNat 6), Value.slice none 0 0, Value.int IntKind.i64 (Int.ofNat 6)]) ([]) = some (Value.bool true, [])) (s1 : sChirp ([Value.int IntKind.i64 n, Value.float FloatKind.f64 v]) ([]) = some (chNil 6, [])) (s2 : sChirp ([Value.int IntKind.i64 n, Value.float FloatKind.f64 v]) ([]) = some (chNil 6, [])) (s3 : sRChirp ([Value.int IntKind.i64 n, Value.float FloatKind.f64 v]) ([]) = some (chNil 6, [])) : CallR Try.prog false 13 ([Value.int IntKind.i64 n, Value.float FloatKind.f64 v]) ([]) (Value.bool true) ([]) := CallR.of_DOXs (C := dLPC) dLPC_ok (X := []) Try.func13 pcE6_fok (n := 3) (orc := [(7, Item.eff (chNil 6) []), (23, Item.eff (chNil 6) []), (39, Item.eff (chNil 6) []), (63, Item.eff (Value.bool true) [])]) (ps := [(sRChirp ([Value.int IntKind.i64 n, Value.float FloatKind.f64 v]) ([]) = some (chNil 6, [])), (sChirp ([Value.int IntKind.i64 n, Value.float FloatKind.f64 v]) ([]) = some (chNil 6, [])), (sChirp ([Value.int IntKind.i64 n, Value.float FloatKind.f64 v]) ([]) = some (chNil 6, [])), (sTold ([Value.slice none 0 0, Value.slice none 0 0, Value.int IntKind.i64 (Int.ofNat 6), Value.int IntKind.i64 (Int.ofNat 6), Value.slice none 0 0, Value.int IntKind.i64 (Int.ofNat 6)]) ([]) = some (Value.bool true, []))]) (by kernel_rfl) (fun hst => ⟨s3, ⟨s2, ⟨s1, ⟨s0, trivial⟩⟩⟩⟩)
theorem rfin_test {x : Nat} (h : Canon x) : cRFin_0 x = isFin x := by
  unfold cRFin_0
  rcases h.three with h' | ⟨s, rfl⟩ | rfl
  · rw [feq_self, fin_num h', h']
    have hr : rg x < 2047 * 2 ^ 52 := of_decide_eq_true h'
    have hm : isFin 9218868437227405311 = true := by decide
    have hm2 : isFin 18442240474082181119 = true := by decide
    have h3 : fxr (rg x) ≤ fxr 9218868437227405311 := fxr_le.2 (by omega)
    have e1 : fx 9218868437227405311 = (fxr 9218868437227405311 : Int) := by unfold fx; rfl
    have e2 : fx 18442240474082181119 = -(fxr 9218868437227405311 : Int) := by unfold fx; rfl
    have hx : fx x ≤ (fxr 9218868437227405311 : Int) ∧ -(fxr 9218868437227405311 : Int) ≤ fx x := by
      unfold fx sgn
      generalize fxr 9218868437227405311 = M at h3
      split <;> constructor <;> omega
    rw [fle_fin h' hm, fge_fin h' hm2, e1, e2, decide_eq_true hx.1, decide_eq_true hx.2]
    rfl
  · cases s <;> decide +kernel
  · decide +kernel
theorem cfin_test {x : Nat} (h : Canon x) : cFin_0 x = isFin x := inf_test h
theorem pulseChirps_call (n : Int) {v : Nat} (hv : Canon v) : CallR Try.prog false 13 [.int .i64 n, .float .f64 v] [] (.bool true) [] := by
  have hf := cfin_test hv
  have hr := rfin_test hv
  cases h1 : decide (n < 1)
  · cases h2 : decide (n > 16384)
    · cases h3 : isFin v
      · have c1 : ∀ σ, sChirp [.int .i64 n, .float .f64 v] σ = some (chNil 6, σ) := fun σ => by unfold sChirp sCh; simp only [h1, h2, hf, h3, cond_false]
        have c2 : ∀ σ, sRChirp [.int .i64 n, .float .f64 v] σ = some (chNil 6, σ) := fun σ => by unfold sRChirp sCh; simp only [h1, h2, hr, h3, cond_false]
        exact pcE6_p0 n v (sTold_err 6 (by simp)) (c1 _) (c1 _) (c2 _)
      · have g1 := of_decide_eq_false h1
        have g2 := of_decide_eq_false h2
        obtain ⟨m, rfl⟩ : ∃ m : Nat, n = iN m := ⟨n.toNat, by rw [iN_eq]; omega⟩
        have hm : 0 < m ∧ m ≤ 16384 := by rw [iN_eq] at g1 g2; omega
        have c1 : ∀ σ, sChirp [.int .i64 (iN m), .float .f64 v] σ = some (chOk σ.length m 1, σ ++ [.row (wRow m v) true none]) := fun σ => by unfold sChirp sCh; simp only [h1, h2, hf, h3, cond_false, cond_true]; rfl
        have c2 : ∀ σ, sRChirp [.int .i64 (iN m), .float .f64 v] σ = some (chOk σ.length m 2, σ ++ [.row (rRow m v) true (some 2)]) := fun σ => by unfold sRChirp sCh; simp only [h1, h2, hr, h3, cond_false, cond_true]; rfl
        exact (pc_p0 m v (sTold_ok_at (some 2) (fun i => wTurn_0 (chX m v i)) (fun i => wTurn_1 (chX m v i)) (fun i => wTurn_0 (chX m v i)) (fun i => wTurn_1 (chX m v i)) (fun i => wTurn_0 (chX m v i)) (fun i => wTurn_1 (chX m v i)) m hm.1 hm.2 (fun i _ => same_refl _ _) (fun i _ => same_refl _ _)) (c1 _) (c1 _) (c2 _)).drop rfl
    · have c1 : ∀ σ, sChirp [.int .i64 n, .float .f64 v] σ = some (chNil 3, σ) := fun σ => by unfold sChirp sCh; simp only [h1, h2, cond_false, cond_true]
      have c2 : ∀ σ, sRChirp [.int .i64 n, .float .f64 v] σ = some (chNil 3, σ) := fun σ => by unfold sRChirp sCh; simp only [h1, h2, cond_false, cond_true]
      exact pcE3_p0 n v (sTold_err 3 (by simp)) (c1 _) (c1 _) (c2 _)
  · have c1 : ∀ σ, sChirp [.int .i64 n, .float .f64 v] σ = some (chNil 2, σ) := fun σ => by unfold sChirp sCh; simp only [h1, cond_true]
    have c2 : ∀ σ, sRChirp [.int .i64 n, .float .f64 v] σ = some (chNil 2, σ) := fun σ => by unfold sRChirp sCh; simp only [h1, cond_true]
    exact pcE2_p0 n v (sTold_err 2 (by simp)) (c1 _) (c1 _) (c2 _)
end Go.Lk
