/- Own of Barker's rows: reckoned. -/
import Derived.Test.YtmomainjlncogaaLkK64
import Derived.Test.YtmomainjlncogaaLkLS
namespace Go.Lk
open Go.Proofs
set_option maxRecDepth 100000
set_option linter.unusedVariables false
set_option linter.unusedSimpArgs false
theorem CallR.quietA {P : Program} {ex : Bool} {f : FuncId} {args : List Value} {σ σ0' : AHeap} {v : Value} (ha : args.all plain = true) (h : CallR P ex f args [] v σ0') (hv : plain v = true) : CallR P ex f args σ v σ := by
  refine CallR.frameQ (r := fun k => k + σ.length) (args0 := args) (σ0 := []) ⟨fun k o hk => by simp at hk, fun k hk => by omega⟩ ?_ h hv
  have : ∀ l : List Value, l.all plain = true → l.map (renV (fun k => k + σ.length) 3) = l := by
    intro l
    induction l with
    | nil => intro _; rfl
    | cons v l ih =>
      intro hl
      rw [List.all_cons, Bool.and_eq_true] at hl
      rw [List.map_cons, plain_inert hl.1, ih hl.2]
  exact this args ha
noncomputable def LMs : Lib := ⟨Try.prog, false, t1, [(122, Try.f122)], []⟩
theorem LMs_fp : ∀ e, e ∈ LMs.pures → Try.prog.funcs[e.1]? = some e.2 := fs_cons Try.func122 (fs_nil)
theorem LMs_fh : ∀ e, e ∈ LMs.heaps → Try.prog.funcs[e.1]? = some e.2.2 := gs_nil
theorem LMs_p1 (gp : Nat → PureFn) (g : Nat → HeapFn) : (LMs.pures.all fun e => fnOk (LMs.mk' gp g) e.2) = true := by kernel_rfl
theorem LMs_h1 (gp : Nat → PureFn) (g : Nat → HeapFn) : (LMs.heaps.all fun e => fnOk (LMs.mk' gp g) e.2.2 && (!e.2.1 || fnRo (LMs.mk' gp g) e.2.2)) = true := by kernel_rfl
theorem LMs_ok : LMs.Ok := ⟨t1_ok, mixed, LMs_fp, LMs_fh, LMs_p1, LMs_h1⟩
theorem msPP (σ : AHeap) : CallR Try.prog false 135 [.complex .f64 4607182418800017408 0, .complex .f64 4607182418800017408 9223372036854775808] σ (.complex .f64 4607182418800017408 0) σ :=
  CallR.quietA rfl (CallR.of_DFn_nil (C := LMs.cfg 100 4) (LMs_ok.cfg 100 4) Try.func135 (by kernel_rfl) (by kernel_rfl) (show DFn (LMs.cfg 100 4) 100 Try.f135 [.complex .f64 4607182418800017408 0, .complex .f64 4607182418800017408 9223372036854775808] [] = some (.complex .f64 4607182418800017408 0, []) by kernel_rfl) rfl) rfl
theorem msPM (σ : AHeap) : CallR Try.prog false 135 [.complex .f64 4607182418800017408 0, .complex .f64 13830554455654793216 9223372036854775808] σ (.complex .f64 13830554455654793216 9223372036854775808) σ :=
  CallR.quietA rfl (CallR.of_DFn_nil (C := LMs.cfg 100 4) (LMs_ok.cfg 100 4) Try.func135 (by kernel_rfl) (by kernel_rfl) (show DFn (LMs.cfg 100 4) 100 Try.f135 [.complex .f64 4607182418800017408 0, .complex .f64 13830554455654793216 9223372036854775808] [] = some (.complex .f64 13830554455654793216 9223372036854775808, []) by kernel_rfl) rfl) rfl
theorem msMP (σ : AHeap) : CallR Try.prog false 135 [.complex .f64 13830554455654793216 0, .complex .f64 4607182418800017408 9223372036854775808] σ (.complex .f64 13830554455654793216 0) σ :=
  CallR.quietA rfl (CallR.of_DFn_nil (C := LMs.cfg 100 4) (LMs_ok.cfg 100 4) Try.func135 (by kernel_rfl) (by kernel_rfl) (show DFn (LMs.cfg 100 4) 100 Try.f135 [.complex .f64 13830554455654793216 0, .complex .f64 4607182418800017408 9223372036854775808] [] = some (.complex .f64 13830554455654793216 0, []) by kernel_rfl) rfl) rfl
theorem msMM (σ : AHeap) : CallR Try.prog false 135 [.complex .f64 13830554455654793216 0, .complex .f64 13830554455654793216 9223372036854775808] σ (.complex .f64 4607182418800017408 0) σ :=
  CallR.quietA rfl (CallR.of_DFn_nil (C := LMs.cfg 100 4) (LMs_ok.cfg 100 4) Try.func135 (by kernel_rfl) (by kernel_rfl) (show DFn (LMs.cfg 100 4) 100 Try.f135 [.complex .f64 13830554455654793216 0, .complex .f64 13830554455654793216 9223372036854775808] [] = some (.complex .f64 4607182418800017408 0, []) by kernel_rfl) rfl) rfl
def sMs : PureFn
  | [.complex .f64 a 0, .complex .f64 b 9223372036854775808] =>
    bif a == 4607182418800017408 then (bif b == 4607182418800017408 then some (.complex .f64 4607182418800017408 0) else bif b == 13830554455654793216 then some (.complex .f64 13830554455654793216 9223372036854775808) else none) else bif a == 13830554455654793216 then (bif b == 4607182418800017408 then some (.complex .f64 13830554455654793216 0) else bif b == 13830554455654793216 then some (.complex .f64 4607182418800017408 0) else none) else none
  | _ => none
theorem sMs_ok : IsPure Try.prog false 135 sMs := by
  intro args v σ h
  unfold sMs at h
  split at h
  · rename_i a b
    cases ha : a == 4607182418800017408
    · rw [ha] at h
      cases hb : a == 13830554455654793216
      · rw [hb] at h; cases h
      · rw [hb] at h
        have ea := eq_of_beq hb
        subst ea
        cases hc : b == 4607182418800017408
        · rw [hc] at h
          cases hd : b == 13830554455654793216
          · rw [hd] at h; cases h
          · rw [hd] at h; cases h
            have eb := eq_of_beq hd
            subst eb
            exact msMM σ
        · rw [hc] at h; cases h
          have eb := eq_of_beq hc
          subst eb
          exact msMP σ
    · rw [ha] at h
      have ea := eq_of_beq ha
      subst ea
      cases hc : b == 4607182418800017408
      · rw [hc] at h
        cases hd : b == 13830554455654793216
        · rw [hd] at h; cases h
        · rw [hd] at h; cases h
          have eb := eq_of_beq hd
          subst eb
          exact msPM σ
      · rw [hc] at h; cases h
        have eb := eq_of_beq hc
        subst eb
        exact msPP σ
  · cases h
noncomputable def tms : Tab := t1.addP 135 sMs
theorem tms_ok : tms.Ok Try.prog false := Tab.Ok.addP t1_ok sMs_ok
noncomputable def LOw : Lib := ⟨Try.prog, false, tms, [(122, Try.f122)], [(146, true, Try.f146)]⟩
theorem LOw_fp : ∀ e, e ∈ LOw.pures → Try.prog.funcs[e.1]? = some e.2 := fs_cons Try.func122 (fs_nil)
theorem LOw_fh : ∀ e, e ∈ LOw.heaps → Try.prog.funcs[e.1]? = some e.2.2 := gs_cons Try.func146 (gs_nil)
theorem LOw_p1 (gp : Nat → PureFn) (g : Nat → HeapFn) : (LOw.pures.all fun e => fnOk (LOw.mk' gp g) e.2) = true := by kernel_rfl
theorem LOw_h1 (gp : Nat → PureFn) (g : Nat → HeapFn) : (LOw.heaps.all fun e => fnOk (LOw.mk' gp g) e.2.2 && (!e.2.1 || fnRo (LOw.mk' gp g) e.2.2)) = true := by kernel_rfl
theorem LOw_ok : LOw.Ok := ⟨tms_ok, mixed, LOw_fp, LOw_fh, LOw_p1, LOw_h1⟩
theorem CallR.of_DFn_at {C : Cfg} (hC : C.Ok) {f : FuncId} {fn : Func} {args : List Value} {σ σ1 : AHeap} {v : Value} {n : Nat}
    (hf : C.P.funcs[f]? = some fn) (hok : (match fn.body with | some b => codeOk C b | none => false) = true) (hnm : (fn.name == "runtime.NumGoroutine") = false)
    (h : DFn C n fn args σ = some (v, σ1)) : CallR C.P C.ex f args σ v σ1 := by
  obtain ⟨body, e, fr1, hb, h1, h2, h3⟩ := DFn_some h
  rw [hb] at hok
  exact CallR.of_sim_raw hC hf hb hnm (DC_sound hC n _ _ _ _ _ _ hok h1) h2 h3
theorem own_ok : (match Try.f68.body with | some b => codeOk (LOw.cfg 100 6) b | none => false) = true := by kernel_rfl
def ob2 : List Value := [.complex .f64 4607182418800017408 0, .complex .f64 13830554455654793216 0]
def oo2 : List Value := [.complex .f64 13830554455654793216 9223372036854775808, .complex .f64 4611686018427387904 0, .complex .f64 13830554455654793216 0]
theorem own2_run : ((DFn (LOw.cfg 100 6) 100 Try.f68 [.slice (some ⟨0, 0, some 1⟩) 2 2] [.row ob2 false (some 1)]).map fun y => (y.1, y.2[1]?)) = some (.slice (some ⟨1, 0, some 1⟩) 3 3, some (.row oo2 true none)) := by kernel_rfl
def ob3 : List Value := [.complex .f64 4607182418800017408 0, .complex .f64 4607182418800017408 0, .complex .f64 13830554455654793216 0]
def oo3 : List Value := [.complex .f64 13830554455654793216 9223372036854775808, .complex .f64 0 0, .complex .f64 4613937818241073152 0, .complex .f64 0 0, .complex .f64 13830554455654793216 0]
theorem own3_run : ((DFn (LOw.cfg 100 6) 100 Try.f68 [.slice (some ⟨0, 0, some 1⟩) 3 3] [.row ob3 false (some 1)]).map fun y => (y.1, y.2[1]?)) = some (.slice (some ⟨1, 0, some 1⟩) 5 5, some (.row oo3 true none)) := by kernel_rfl
def ob4 : List Value := [.complex .f64 4607182418800017408 0, .complex .f64 4607182418800017408 0, .complex .f64 13830554455654793216 0, .complex .f64 4607182418800017408 0]
def oo4 : List Value := [.complex .f64 4607182418800017408 0, .complex .f64 0 0, .complex .f64 13830554455654793216 0, .complex .f64 4616189618054758400 0, .complex .f64 13830554455654793216 0, .complex .f64 0 0, .complex .f64 4607182418800017408 0]
theorem own4_run : ((DFn (LOw.cfg 100 6) 100 Try.f68 [.slice (some ⟨0, 0, some 1⟩) 4 4] [.row ob4 false (some 1)]).map fun y => (y.1, y.2[1]?)) = some (.slice (some ⟨1, 0, some 1⟩) 7 7, some (.row oo4 true none)) := by kernel_rfl
def ob5 : List Value := [.complex .f64 4607182418800017408 0, .complex .f64 4607182418800017408 0, .complex .f64 4607182418800017408 0, .complex .f64 13830554455654793216 0, .complex .f64 4607182418800017408 0]
def oo5 : List Value := [.complex .f64 4607182418800017408 0, .complex .f64 0 0, .complex .f64 4607182418800017408 0, .complex .f64 0 0, .complex .f64 4617315517961601024 0, .complex .f64 0 0, .complex .f64 4607182418800017408 0, .complex .f64 0 0, .complex .f64 4607182418800017408 0]
theorem own5_run : ((DFn (LOw.cfg 100 6) 100 Try.f68 [.slice (some ⟨0, 0, some 1⟩) 5 5] [.row ob5 false (some 1)]).map fun y => (y.1, y.2[1]?)) = some (.slice (some ⟨1, 0, some 1⟩) 9 9, some (.row oo5 true none)) := by kernel_rfl
def ob7 : List Value := [.complex .f64 4607182418800017408 0, .complex .f64 4607182418800017408 0, .complex .f64 4607182418800017408 0, .complex .f64 13830554455654793216 0, .complex .f64 13830554455654793216 0, .complex .f64 4607182418800017408 0, .complex .f64 13830554455654793216 0]
def oo7 : List Value := [.complex .f64 13830554455654793216 9223372036854775808, .complex .f64 0 0, .complex .f64 13830554455654793216 0, .complex .f64 0 0, .complex .f64 13830554455654793216 0, .complex .f64 0 0, .complex .f64 4619567317775286272 0, .complex .f64 0 0, .complex .f64 13830554455654793216 0, .complex .f64 0 0, .complex .f64 13830554455654793216 0, .complex .f64 0 0, .complex .f64 13830554455654793216 0]
theorem own7_run : ((DFn (LOw.cfg 100 6) 100 Try.f68 [.slice (some ⟨0, 0, some 1⟩) 7 7] [.row ob7 false (some 1)]).map fun y => (y.1, y.2[1]?)) = some (.slice (some ⟨1, 0, some 1⟩) 13 13, some (.row oo7 true none)) := by kernel_rfl
def ob11 : List Value := [.complex .f64 4607182418800017408 0, .complex .f64 4607182418800017408 0, .complex .f64 4607182418800017408 0, .complex .f64 13830554455654793216 0, .complex .f64 13830554455654793216 0, .complex .f64 13830554455654793216 0, .complex .f64 4607182418800017408 0, .complex .f64 13830554455654793216 0, .complex .f64 13830554455654793216 0, .complex .f64 4607182418800017408 0, .complex .f64 13830554455654793216 0]
def oo11 : List Value := [.complex .f64 13830554455654793216 9223372036854775808, .complex .f64 0 0, .complex .f64 13830554455654793216 0, .complex .f64 0 0, .complex .f64 13830554455654793216 0, .complex .f64 0 0, .complex .f64 13830554455654793216 0, .complex .f64 0 0, .complex .f64 13830554455654793216 0, .complex .f64 0 0, .complex .f64 4622382067542392832 0, .complex .f64 0 0, .complex .f64 13830554455654793216 0, .complex .f64 0 0, .complex .f64 13830554455654793216 0, .complex .f64 0 0, .complex .f64 13830554455654793216 0, .complex .f64 0 0, .complex .f64 13830554455654793216 0, .complex .f64 0 0, .complex .f64 13830554455654793216 0]
theorem own11_run : ((DFn (LOw.cfg 100 6) 100 Try.f68 [.slice (some ⟨0, 0, some 1⟩) 11 11] [.row ob11 false (some 1)]).map fun y => (y.1, y.2[1]?)) = some (.slice (some ⟨1, 0, some 1⟩) 21 21, some (.row oo11 true none)) := by kernel_rfl
def ob13 : List Value := [.complex .f64 4607182418800017408 0, .complex .f64 4607182418800017408 0, .complex .f64 4607182418800017408 0, .complex .f64 4607182418800017408 0, .complex .f64 4607182418800017408 0, .complex .f64 13830554455654793216 0, .complex .f64 13830554455654793216 0, .complex .f64 4607182418800017408 0, .complex .f64 4607182418800017408 0, .complex .f64 13830554455654793216 0, .complex .f64 4607182418800017408 0, .complex .f64 13830554455654793216 0, .complex .f64 4607182418800017408 0]
def oo13 : List Value := [.complex .f64 4607182418800017408 0, .complex .f64 0 0, .complex .f64 4607182418800017408 0, .complex .f64 0 0, .complex .f64 4607182418800017408 0, .complex .f64 0 0, .complex .f64 4607182418800017408 0, .complex .f64 0 0, .complex .f64 4607182418800017408 0, .complex .f64 0 0, .complex .f64 4607182418800017408 0, .complex .f64 0 0, .complex .f64 4623507967449235456 0, .complex .f64 0 0, .complex .f64 4607182418800017408 0, .complex .f64 0 0, .complex .f64 4607182418800017408 0, .complex .f64 0 0, .complex .f64 4607182418800017408 0, .complex .f64 0 0, .complex .f64 4607182418800017408 0, .complex .f64 0 0, .complex .f64 4607182418800017408 0, .complex .f64 0 0, .complex .f64 4607182418800017408 0]
theorem own13_run : ((DFn (LOw.cfg 100 6) 100 Try.f68 [.slice (some ⟨0, 0, some 1⟩) 13 13] [.row ob13 false (some 1)]).map fun y => (y.1, y.2[1]?)) = some (.slice (some ⟨1, 0, some 1⟩) 25 25, some (.row oo13 true none)) := by kernel_rfl
end Go.Lk
