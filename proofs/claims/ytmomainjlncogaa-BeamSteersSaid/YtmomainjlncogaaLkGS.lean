/- Steer; the document's. -/
import Derived.Test.YtmomainjlncogaaLkGR
namespace Go.Lk
open Go.Proofs
set_option maxRecDepth 100000
set_option maxHeartbeats 0
set_option linter.unusedVariables false
set_option linter.unusedSimpArgs false
noncomputable def LF2 : Lib := ⟨Try.prog, false, t9s, [], []⟩
theorem LF2_fp : ∀ e, e ∈ LF2.pures → Try.prog.funcs[e.1]? = some e.2 := fs_nil
theorem LF2_fh : ∀ e, e ∈ LF2.heaps → Try.prog.funcs[e.1]? = some e.2.2 := gs_nil
theorem LF2_p1 (gp : Nat → PureFn) (g : Nat → HeapFn) : (LF2.pures.all fun e => fnOk (LF2.mk' gp g) e.2) = true := by kernel_rfl
theorem LF2_h1 (gp : Nat → PureFn) (g : Nat → HeapFn) : (LF2.heaps.all fun e => fnOk (LF2.mk' gp g) e.2.2 && (!e.2.1 || fnRo (LF2.mk' gp g) e.2.2)) = true := by kernel_rfl
theorem LF2_ok : LF2.Ok := ⟨t9s_ok, mixed, LF2_fp, LF2_fh, LF2_p1, LF2_h1⟩
noncomputable def dLF2 : Cfg := LF2.cfg 100 4
theorem dLF2_ok : dLF2.Ok := LF2_ok.cfg 100 4

theorem cNf_fok : fnOk (dLF2) Try.f201 = true := by kernel_rfl
theorem cNf_p0 (x : Nat) (σ : AHeap) : CallR Try.prog false 201 [Value.float .f64 x] σ (Value.bool !feq (fsub x x) 0) σ := CallR.of_DO_pure (C := dLF2) dLF2_ok Try.func201 cNf_fok (n := 100) (orc := []) (ps := []) (σ1 := []) (by kernel_rfl) trivial rfl rfl
def cNf_t (x : Nat) : Value := (Value.bool !feq (fsub x x) 0)
theorem cNf_c (x : Nat) (σ : AHeap) : CallR Try.prog false 201 [Value.float .f64 x] σ (cNf_t x) σ := by
  unfold cNf_t
  exact (cNf_p0 x σ)
def cNf_0 (x : Nat) : Bool := !feq (fsub x x) 0
theorem cNf_v (x : Nat) : cNf_t x = Go.Value.bool (cNf_0 x) := by
  unfold cNf_t cNf_0
  kernel_rfl
theorem cNf_ok (x : Nat) (σ : AHeap) : CallR Try.prog false 201 [Value.float .f64 x] σ (Go.Value.bool (cNf_0 x)) σ := by
  have h := cNf_c x σ
  rw [cNf_v] at h
  exact h
def sNf : PureFn
  | [.float .f64 x] => some (.bool (cNf_0 x))
  | _ => none
theorem sNf_ok : IsPure Try.prog false 201 sNf := by
  intro args v σ h
  unfold sNf at h
  split at h
  · cases h; exact cNf_ok _ σ
  · cases h
noncomputable def t9t : Tab := (t9s.addP 201 sNf)
theorem t9t_ok : t9t.Ok Try.prog false := (Tab.Ok.addP t9s_ok sNf_ok)
noncomputable def LF3 : Lib := ⟨Try.prog, false, t9t, [], []⟩
theorem LF3_fp : ∀ e, e ∈ LF3.pures → Try.prog.funcs[e.1]? = some e.2 := fs_nil
theorem LF3_fh : ∀ e, e ∈ LF3.heaps → Try.prog.funcs[e.1]? = some e.2.2 := gs_nil
theorem LF3_p1 (gp : Nat → PureFn) (g : Nat → HeapFn) : (LF3.pures.all fun e => fnOk (LF3.mk' gp g) e.2) = true := by kernel_rfl
theorem LF3_h1 (gp : Nat → PureFn) (g : Nat → HeapFn) : (LF3.heaps.all fun e => fnOk (LF3.mk' gp g) e.2.2 && (!e.2.1 || fnRo (LF3.mk' gp g) e.2.2)) = true := by kernel_rfl
theorem LF3_ok : LF3.Ok := ⟨t9t_ok, mixed, LF3_fp, LF3_fh, LF3_p1, LF3_h1⟩
noncomputable def dLF3 : Cfg := LF3.cfg 100 4
theorem dLF3_ok : dLF3.Ok := LF3_ok.cfg 100 4

theorem sidx_fok : fnOkX (dLF3) [] Try.f211 = true := by kernel_rfl
theorem sidx_p0 (o : Option Nat) (x : Nat) (y : Nat) (h0 : (cNf_0 x) = true) : CallR Try.prog false 211 ([Value.slice (some { block := 0, off := 0, spot := some 1 }) 2 2, Value.func (Fn.func 201) { toList := [] } { toList := [] }]) ([AObj.row [Value.float FloatKind.f64 x, Value.float FloatKind.f64 y] false o]) (Value.int IntKind.i64 (Int.ofNat 0)) ([AObj.row [Value.float FloatKind.f64 x, Value.float FloatKind.f64 y] false o]) := CallR.of_DOXs (C := dLF3) dLF3_ok (X := []) Try.func211 sidx_fok (n := 5) (orc := [(27, Item.br true)]) (ps := [(bP (cNf_0 x) true)]) (by kernel_rfl) (fun hst => ⟨bP_of (fun x => x) h0, trivial⟩)
theorem sidx_p1 (o : Option Nat) (x : Nat) (y : Nat) (h0 : (cNf_0 x) = false) (h1 : (cNf_0 y) = true) : CallR Try.prog false 211 ([Value.slice (some { block := 0, off := 0, spot := some 1 }) 2 2, Value.func (Fn.func 201) { toList := [] } { toList := [] }]) ([AObj.row [Value.float FloatKind.f64 x, Value.float FloatKind.f64 y] false o]) (Value.int IntKind.i64 (Int.ofNat 1)) ([AObj.row [Value.float FloatKind.f64 x, Value.float FloatKind.f64 y] false o]) := CallR.of_DOXs (C := dLF3) dLF3_ok (X := []) Try.func211 sidx_fok (n := 5) (orc := [(27, Item.br false), (51, Item.br true)]) (ps := [(bP (cNf_0 x) false), (bP (cNf_0 y) true)]) (by kernel_rfl) (fun hst => ⟨bP_of (fun x => x) h0, ⟨bP_of (fun x => x) h1, trivial⟩⟩)
theorem sidx_p2 (o : Option Nat) (x : Nat) (y : Nat) (h0 : (cNf_0 x) = false) (h1 : (cNf_0 y) = false) : CallR Try.prog false 211 ([Value.slice (some { block := 0, off := 0, spot := some 1 }) 2 2, Value.func (Fn.func 201) { toList := [] } { toList := [] }]) ([AObj.row [Value.float FloatKind.f64 x, Value.float FloatKind.f64 y] false o]) (Value.int IntKind.i64 (Int.negSucc 0)) ([AObj.row [Value.float FloatKind.f64 x, Value.float FloatKind.f64 y] false o]) := CallR.of_DOXs (C := dLF3) dLF3_ok (X := []) Try.func211 sidx_fok (n := 5) (orc := [(27, Item.br false), (51, Item.br false)]) (ps := [(bP (cNf_0 x) false), (bP (cNf_0 y) false)]) (by kernel_rfl) (fun hst => ⟨bP_of (fun x => x) h0, ⟨bP_of (fun x => x) h1, trivial⟩⟩)
def two (f : Nat → Nat → Value) : HeapFn
  | [.slice (some ⟨b, 0, some 1⟩) 2 2], σ =>
    match σ[b]? with
    | some (.row [.float .f64 x, .float .f64 y] _ _) => some (f x y, σ)
    | _ => none
  | _, _ => none
def twoF (f : Nat → Nat → Value) : HeapFn
  | [.slice (some ⟨b, 0, some 1⟩) 2 2, .func (.func 201) ⟨[]⟩ ⟨[]⟩], σ =>
    match σ[b]? with
    | some (.row [.float .f64 x, .float .f64 y] _ _) => some (f x y, σ)
    | _ => none
  | _, _ => none
theorem reads_two {σ : AHeap} {b : Nat} {x y : Nat} {rw' : Bool} {o : Option Nat} (hb : σ[b]? = some (.row [.float .f64 x, .float .f64 y] rw' o)) : Reads [.row [.float .f64 x, .float .f64 y] false o] (fun k => if k = 0 then b else k + σ.length) σ := by
  refine ⟨fun k o' hk => ?_, fun k hk => ?_⟩
  · have hlt := lt_of_some hk
    have hlt : k < 1 := hlt
    have : k = 0 := by omega
    subst this
    simp only [List.getElem?_cons_zero, Option.some.injEq] at hk
    exact ⟨_, o, rw', hk.symm, hb, rfl⟩
  · have hk : 1 ≤ k := hk
    have : ¬ k = 0 := by omega
    simp only [this, if_false]; omega
theorem two_is {F : Nat} {f : Nat → Nat → Value} (hv : ∀ x y, plain (f x y) = true) (h : ∀ o x y, ∃ σ', CallR Try.prog false F [.slice (some ⟨0, 0, some 1⟩) 2 2] [.row [.float .f64 x, .float .f64 y] false o] (f x y) σ') : IsHeap Try.prog false F true (two f) := by
  have hq : ∀ args σ v σ', two f args σ = some (v, σ') → σ' = σ := by
    intro args σ v σ' h
    unfold two at h
    split at h
    · split at h <;> cases h; rfl
    · cases h
  refine ⟨fun args σ v σ' hh => ?_, fun _ => hq, fun args σ v σ' hh => by rw [hq args σ v σ' hh]; exact Nat.le_refl _⟩
  unfold two at hh
  split at hh
  · rename_i b
    split at hh
    · rename_i x y rw' o hb
      cases hh
      obtain ⟨σ1, hc⟩ := h o x y
      exact CallR.frameQ (reads_two hb) rfl hc (hv x y)
    · cases hh
  · cases hh
theorem twoF_is {F : Nat} {f : Nat → Nat → Value} (hv : ∀ x y, plain (f x y) = true) (h : ∀ o x y, ∃ σ', CallR Try.prog false F [.slice (some ⟨0, 0, some 1⟩) 2 2, .func (.func 201) #[] #[]] [.row [.float .f64 x, .float .f64 y] false o] (f x y) σ') : IsHeap Try.prog false F true (twoF f) := by
  have hq : ∀ args σ v σ', twoF f args σ = some (v, σ') → σ' = σ := by
    intro args σ v σ' h
    unfold twoF at h
    split at h
    · split at h <;> cases h; rfl
    · cases h
  refine ⟨fun args σ v σ' hh => ?_, fun _ => hq, fun args σ v σ' hh => by rw [hq args σ v σ' hh]; exact Nat.le_refl _⟩
  unfold twoF at hh
  split at hh
  · rename_i b
    split at hh
    · rename_i x y rw' o hb
      cases hh
      obtain ⟨σ1, hc⟩ := h o x y
      exact CallR.frameQ (reads_two hb) rfl hc (hv x y)
    · cases hh
  · cases hh
def idxV (x y : Nat) : Value := .int .i64 (bif cNf_0 x then 0 else bif cNf_0 y then 1 else -1)
theorem sIdx_ok : IsHeap Try.prog false 211 true (twoF idxV) := twoF_is (fun _ _ => rfl) (fun o x y => by
  cases h0 : cNf_0 x
  · cases h1 : cNf_0 y
    · exact ⟨_, by unfold idxV; rw [h0, h1]; exact sidx_p2 o x y h0 h1⟩
    · exact ⟨_, by unfold idxV; rw [h0, h1]; exact sidx_p1 o x y h0 h1⟩
  · exact ⟨_, by unfold idxV; rw [h0]; exact sidx_p0 o x y h0⟩)
noncomputable def t9u : Tab := t9t.addH 211 true (twoF idxV)
theorem t9u_ok : t9u.Ok Try.prog false := Tab.Ok.addH t9t_ok sIdx_ok
noncomputable def LF4 : Lib := ⟨Try.prog, false, t9u, [], []⟩
theorem LF4_fp : ∀ e, e ∈ LF4.pures → Try.prog.funcs[e.1]? = some e.2 := fs_nil
theorem LF4_fh : ∀ e, e ∈ LF4.heaps → Try.prog.funcs[e.1]? = some e.2.2 := gs_nil
theorem LF4_p1 (gp : Nat → PureFn) (g : Nat → HeapFn) : (LF4.pures.all fun e => fnOk (LF4.mk' gp g) e.2) = true := by kernel_rfl
theorem LF4_h1 (gp : Nat → PureFn) (g : Nat → HeapFn) : (LF4.heaps.all fun e => fnOk (LF4.mk' gp g) e.2.2 && (!e.2.1 || fnRo (LF4.mk' gp g) e.2.2)) = true := by kernel_rfl
theorem LF4_ok : LF4.Ok := ⟨t9u_ok, mixed, LF4_fp, LF4_fh, LF4_p1, LF4_h1⟩
noncomputable def dLF4 : Cfg := LF4.cfg 100 4
theorem dLF4_ok : dLF4.Ok := LF4_ok.cfg 100 4

theorem shas_fok : fnOkX (dLF4) [] Try.f200 = true := by kernel_rfl
theorem shas_p0 (o : Option Nat) (x : Nat) (y : Nat) : CallR Try.prog false 200 ([Value.slice (some { block := 0, off := 0, spot := some 1 }) 2 2, Value.func (Fn.func 201) { toList := [] } { toList := [] }]) ([AObj.row [Value.float FloatKind.f64 x, Value.float FloatKind.f64 y] false o]) (Value.bool (decide ((bif cNf_0 x then Int.ofNat 0 else bif cNf_0 y then Int.ofNat 1 else Int.negSucc 0) ≥ 0))) ([AObj.row [Value.float FloatKind.f64 x, Value.float FloatKind.f64 y] false o]) := CallR.of_DOXs (C := dLF4) dLF4_ok (X := []) Try.func200 shas_fok (n := 5) (orc := []) (ps := []) (by kernel_rfl) (fun hst => trivial)
def hasV (x y : Nat) : Value := .bool (cNf_0 x || cNf_0 y)
theorem sHas_ok : IsHeap Try.prog false 200 true (twoF hasV) := twoF_is (fun _ _ => rfl) (fun o x y => ⟨_, by
  have h := shas_p0 o x y
  have e : hasV x y = .bool (decide ((bif cNf_0 x then 0 else bif cNf_0 y then 1 else -1) ≥ (0 : Int))) := by
    unfold hasV
    cases cNf_0 x <;> cases cNf_0 y <;> rfl
  rw [e]; exact h⟩)
noncomputable def t9v : Tab := t9u.addH 200 true (twoF hasV)
theorem t9v_ok : t9v.Ok Try.prog false := Tab.Ok.addH t9u_ok sHas_ok
noncomputable def LF5 : Lib := ⟨Try.prog, false, t9v, [], []⟩
theorem LF5_fp : ∀ e, e ∈ LF5.pures → Try.prog.funcs[e.1]? = some e.2 := fs_nil
theorem LF5_fh : ∀ e, e ∈ LF5.heaps → Try.prog.funcs[e.1]? = some e.2.2 := gs_nil
theorem LF5_p1 (gp : Nat → PureFn) (g : Nat → HeapFn) : (LF5.pures.all fun e => fnOk (LF5.mk' gp g) e.2) = true := by kernel_rfl
theorem LF5_h1 (gp : Nat → PureFn) (g : Nat → HeapFn) : (LF5.heaps.all fun e => fnOk (LF5.mk' gp g) e.2.2 && (!e.2.1 || fnRo (LF5.mk' gp g) e.2.2)) = true := by kernel_rfl
theorem LF5_ok : LF5.Ok := ⟨t9v_ok, mixed, LF5_fp, LF5_fh, LF5_p1, LF5_h1⟩
noncomputable def dLF5 : Cfg := LF5.cfg 100 4
theorem dLF5_ok : dLF5.Ok := LF5_ok.cfg 100 4

theorem sfi_fok : fnOkX (dLF5) [] Try.f173 = true := by kernel_rfl
theorem sfi_p0 (o : Option Nat) (x : Nat) (y : Nat) : CallR Try.prog false 173 ([Value.slice (some { block := 0, off := 0, spot := some 1 }) 2 2]) ([AObj.row [Value.float FloatKind.f64 x, Value.float FloatKind.f64 y] false o]) (Value.bool !(cNf_0 x || cNf_0 y)) ([AObj.row [Value.float FloatKind.f64 x, Value.float FloatKind.f64 y] false o]) := CallR.of_DOXs (C := dLF5) dLF5_ok (X := []) Try.func173 sfi_fok (n := 5) (orc := []) (ps := []) (by kernel_rfl) (fun hst => trivial)
def finV (x y : Nat) : Value := .bool (!(cNf_0 x || cNf_0 y))
theorem sFi_ok : IsHeap Try.prog false 173 true (two finV) := two_is (fun _ _ => rfl) (fun o x y => ⟨_, sfi_p0 o x y⟩)
theorem cStep_fok : fnOk (dLF5) Try.f174 = true := by kernel_rfl
theorem cStep_p0 (d : Nat) (s : Nat) (σ : AHeap) : CallR Try.prog false 174 [Value.float .f64 d, Value.float .f64 s] σ (Value.float FloatKind.f64 (fmul d (wTurn_1 s))) σ := CallR.of_DO_pure (C := dLF5) dLF5_ok Try.func174 cStep_fok (n := 100) (orc := []) (ps := []) (σ1 := []) (by kernel_rfl) trivial rfl rfl
def cStep_t (d : Nat) (s : Nat) : Value := (Value.float FloatKind.f64 (fmul d (wTurn_1 s)))
theorem cStep_c (d : Nat) (s : Nat) (σ : AHeap) : CallR Try.prog false 174 [Value.float .f64 d,
  Value.float .f64 s] σ (cStep_t d s) σ := by
  unfold cStep_t
  exact (cStep_p0 d s σ)
def cStep_0 (d : Nat) (s : Nat) : Nat := fmul d (wTurn_1 s)
theorem cStep_v (d : Nat) (s : Nat) : cStep_t d s = Go.Value.float Go.FloatKind.f64 (cStep_0 d s) := by
  unfold cStep_t cStep_0
  kernel_rfl
theorem cStep_ok (d : Nat) (s : Nat) (σ : AHeap) : CallR Try.prog false 174 [Value.float .f64 d,
  Value.float .f64 s] σ (Go.Value.float Go.FloatKind.f64 (cStep_0 d s)) σ := by
  have h := cStep_c d s σ
  rw [cStep_v] at h
  exact h
theorem cRStep_fok : fnOk (dLF5) Try.f177 = true := by kernel_rfl
theorem cRStep_p0 (d : Nat) (s : Nat) (σ : AHeap) : CallR Try.prog false 177 [Value.float .f64 d, Value.float .f64 s] σ (Value.float FloatKind.f64 (fmul d (rTurn_1 s))) σ := CallR.of_DO_pure (C := dLF5) dLF5_ok Try.func177 cRStep_fok (n := 100) (orc := []) (ps := []) (σ1 := []) (by kernel_rfl) trivial rfl rfl
def cRStep_t (d : Nat) (s : Nat) : Value := (Value.float FloatKind.f64 (fmul d (rTurn_1 s)))
theorem cRStep_c (d : Nat) (s : Nat) (σ : AHeap) : CallR Try.prog false 177 [Value.float .f64 d,
  Value.float .f64 s] σ (cRStep_t d s) σ := by
  unfold cRStep_t
  exact (cRStep_p0 d s σ)
def cRStep_0 (d : Nat) (s : Nat) : Nat := fmul d (rTurn_1 s)
theorem cRStep_v (d : Nat) (s : Nat) : cRStep_t d s = Go.Value.float Go.FloatKind.f64 (cRStep_0 d s) := by
  unfold cRStep_t cRStep_0
  kernel_rfl
theorem cRStep_ok (d : Nat) (s : Nat) (σ : AHeap) : CallR Try.prog false 177 [Value.float .f64 d,
  Value.float .f64 s] σ (Go.Value.float Go.FloatKind.f64 (cRStep_0 d s)) σ := by
  have h := cRStep_c d s σ
  rw [cRStep_v] at h
  exact h
def sStep : PureFn
  | [.float .f64 x, .float .f64 y] => some (.float .f64 (cStep_0 x y))
  | _ => none
theorem sStep_ok : IsPure Try.prog false 174 sStep := by
  intro args v σ h
  unfold sStep at h
  split at h
  · cases h; exact cStep_ok _ _ σ
  · cases h
def sRStep : PureFn
  | [.float .f64 x, .float .f64 y] => some (.float .f64 (cRStep_0 x y))
  | _ => none
theorem sRStep_ok : IsPure Try.prog false 177 sRStep := by
  intro args v σ h
  unfold sRStep at h
  split at h
  · cases h; exact cRStep_ok _ _ σ
  · cases h
noncomputable def t9w : Tab := (((t9v.addH 173 true (two finV)).addP 174 sStep).addP 177 sRStep)
theorem t9w_ok : t9w.Ok Try.prog false := (Tab.Ok.addP (Tab.Ok.addP (Tab.Ok.addH t9v_ok sFi_ok) sStep_ok) sRStep_ok)
end Go.Lk
