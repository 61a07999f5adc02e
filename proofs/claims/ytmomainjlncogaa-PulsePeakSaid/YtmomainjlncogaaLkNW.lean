/- Barker's rows and the codes of them, by their lists. -/
import Derived.Test.YtmomainjlncogaaLkNV
namespace Go.Lk
open Go.Proofs
set_option maxRecDepth 100000
set_option linter.unusedVariables false
set_option linter.unusedSimpArgs false
noncomputable def LBc : Lib := ⟨Try.prog, false, t1, [(151, Try.f151)], [(75, false, Try.f75)]⟩
theorem LBc_fp : ∀ e, e ∈ LBc.pures → Try.prog.funcs[e.1]? = some e.2 := fs_cons Try.func151 (fs_nil)
theorem LBc_fh : ∀ e, e ∈ LBc.heaps → Try.prog.funcs[e.1]? = some e.2.2 := gs_cons Try.func75 (gs_nil)
theorem LBc_p1 (gp : Nat → PureFn) (g : Nat → HeapFn) : (LBc.pures.all fun e => fnOk (LBc.mk' gp g) e.2) = true := by kernel_rfl
theorem LBc_h1 (gp : Nat → PureFn) (g : Nat → HeapFn) : (LBc.heaps.all fun e => fnOk (LBc.mk' gp g) e.2.2 && (!e.2.1 || fnRo (LBc.mk' gp g) e.2.2)) = true := by kernel_rfl
theorem LBc_ok : LBc.Ok := ⟨t1_ok, mixed, LBc_fp, LBc_fh, LBc_p1, LBc_h1⟩
theorem bar_call {f : FuncId} {fn : Func} {a : Int} {n k : Nat} {ob : List Value} (hf : Try.prog.funcs[f]? = some fn) (hok : (match fn.body with | some b => codeOk (LBc.cfg 100 6) b | none => false) = true) (hnm : (fn.name == "runtime.NumGoroutine") = false) {o : Option Nat}
    (h : ((DFn (LBc.cfg 100 6) 100 fn [.int .i64 a] []).map fun y => (y.1, y.2[k]?)) = some (.tuple #[.slice (some ⟨k, 0, some 1⟩) n n, .int .i64 0], some (.row ob true (some 1)))) (hp : ob.all plain = true) (σ : AHeap) :
    CallR Try.prog false f [.int .i64 a] σ (.tuple #[.slice (some ⟨σ.length, 0, some 1⟩) n n, .int .i64 0]) (σ ++ [.row ob true (some 1)]) := by
  cases hd : DFn (LBc.cfg 100 6) 100 fn [.int .i64 a] [] with
  | none => rw [hd] at h; cases h
  | some y =>
    obtain ⟨v, σ1⟩ := y
    rw [hd] at h
    simp only [Option.map_some, Option.some.injEq, Prod.mk.injEq] at h
    obtain ⟨rfl, h2⟩ := h
    have hc := CallR.of_DFn_at (LBc_ok.cfg 100 6) hf hok hnm hd
    exact CallR.frameN (r := fun k => k + σ.length) (q := fun j => if j = σ.length then k else j + σ1.length) (args0 := [.int .i64 a]) (σ0 := []) ⟨fun k o hk => by simp at hk, fun k hk => by omega⟩ rfl hc (k := k) h2 hp (fun _ => rfl) (by simp [renV])
def rowAns (l : Option (List Value)) (σ : AHeap) : Option (Value × AHeap) := match l with | some ob => some (.tuple #[.slice (some ⟨σ.length, 0, some 1⟩) ob.length ob.length, .int .i64 0], σ ++ [.row ob true (some 1)]) | none => none
def ofBar (n : Int) : Option (List Value) := bif n == Int.ofNat 2 then some ob2 else bif n == Int.ofNat 3 then some ob3 else bif n == Int.ofNat 4 then some ob4 else bif n == Int.ofNat 5 then some ob5 else bif n == Int.ofNat 7 then some ob7 else bif n == Int.ofNat 11 then some ob11 else bif n == Int.ofNat 13 then some ob13 else none
def sBk : HeapFn
  | [.int .i64 n], σ => rowAns (ofBar n) σ
  | _, _ => none
theorem Bar_ok2 : (match Try.f75.body with | some b => codeOk (LBc.cfg 100 6) b | none => false) = true := by kernel_rfl
theorem Bar2_run : ((DFn (LBc.cfg 100 6) 100 Try.f75 [.int .i64 2] []).map fun y => (y.1, y.2[4]?)) = some (.tuple #[.slice (some ⟨4, 0, some 1⟩) 2 2, .int .i64 0], some (.row ob2 true (some 1))) := by kernel_rfl
theorem Bar3_run : ((DFn (LBc.cfg 100 6) 100 Try.f75 [.int .i64 3] []).map fun y => (y.1, y.2[6]?)) = some (.tuple #[.slice (some ⟨6, 0, some 1⟩) 3 3, .int .i64 0], some (.row ob3 true (some 1))) := by kernel_rfl
theorem Bar4_run : ((DFn (LBc.cfg 100 6) 100 Try.f75 [.int .i64 4] []).map fun y => (y.1, y.2[8]?)) = some (.tuple #[.slice (some ⟨8, 0, some 1⟩) 4 4, .int .i64 0], some (.row ob4 true (some 1))) := by kernel_rfl
theorem Bar5_run : ((DFn (LBc.cfg 100 6) 100 Try.f75 [.int .i64 5] []).map fun y => (y.1, y.2[10]?)) = some (.tuple #[.slice (some ⟨10, 0, some 1⟩) 5 5, .int .i64 0], some (.row ob5 true (some 1))) := by kernel_rfl
theorem Bar7_run : ((DFn (LBc.cfg 100 6) 100 Try.f75 [.int .i64 7] []).map fun y => (y.1, y.2[14]?)) = some (.tuple #[.slice (some ⟨14, 0, some 1⟩) 7 7, .int .i64 0], some (.row ob7 true (some 1))) := by kernel_rfl
theorem Bar11_run : ((DFn (LBc.cfg 100 6) 100 Try.f75 [.int .i64 11] []).map fun y => (y.1, y.2[22]?)) = some (.tuple #[.slice (some ⟨22, 0, some 1⟩) 11 11, .int .i64 0], some (.row ob11 true (some 1))) := by kernel_rfl
theorem Bar13_run : ((DFn (LBc.cfg 100 6) 100 Try.f75 [.int .i64 13] []).map fun y => (y.1, y.2[26]?)) = some (.tuple #[.slice (some ⟨26, 0, some 1⟩) 13 13, .int .i64 0], some (.row ob13 true (some 1))) := by kernel_rfl
theorem sBk_ok : IsHeap Try.prog false 75 false sBk := by
  refine ⟨fun args σ v σ' h => ?_, (by intro h; cases h), fun args σ v σ' h => ?_⟩
  · unfold sBk at h
    split at h
    · rename_i n
      unfold ofBar at h
      by_cases e2 : n = 2
      · subst e2
        have h : rowAns (some ob2) σ = some (v, σ') := h
        cases h
        exact bar_call (n := 2) Try.func75 Bar_ok2 (by kernel_rfl) (o := none) Bar2_run rfl σ
      rw [show (n == Int.ofNat 2) = false by simpa using e2] at h
      simp only [cond_false] at h
      by_cases e3 : n = 3
      · subst e3
        have h : rowAns (some ob3) σ = some (v, σ') := h
        cases h
        exact bar_call (n := 3) Try.func75 Bar_ok2 (by kernel_rfl) (o := none) Bar3_run rfl σ
      rw [show (n == Int.ofNat 3) = false by simpa using e3] at h
      simp only [cond_false] at h
      by_cases e4 : n = 4
      · subst e4
        have h : rowAns (some ob4) σ = some (v, σ') := h
        cases h
        exact bar_call (n := 4) Try.func75 Bar_ok2 (by kernel_rfl) (o := none) Bar4_run rfl σ
      rw [show (n == Int.ofNat 4) = false by simpa using e4] at h
      simp only [cond_false] at h
      by_cases e5 : n = 5
      · subst e5
        have h : rowAns (some ob5) σ = some (v, σ') := h
        cases h
        exact bar_call (n := 5) Try.func75 Bar_ok2 (by kernel_rfl) (o := none) Bar5_run rfl σ
      rw [show (n == Int.ofNat 5) = false by simpa using e5] at h
      simp only [cond_false] at h
      by_cases e7 : n = 7
      · subst e7
        have h : rowAns (some ob7) σ = some (v, σ') := h
        cases h
        exact bar_call (n := 7) Try.func75 Bar_ok2 (by kernel_rfl) (o := none) Bar7_run rfl σ
      rw [show (n == Int.ofNat 7) = false by simpa using e7] at h
      simp only [cond_false] at h
      by_cases e11 : n = 11
      · subst e11
        have h : rowAns (some ob11) σ = some (v, σ') := h
        cases h
        exact bar_call (n := 11) Try.func75 Bar_ok2 (by kernel_rfl) (o := none) Bar11_run rfl σ
      rw [show (n == Int.ofNat 11) = false by simpa using e11] at h
      simp only [cond_false] at h
      by_cases e13 : n = 13
      · subst e13
        have h : rowAns (some ob13) σ = some (v, σ') := h
        cases h
        exact bar_call (n := 13) Try.func75 Bar_ok2 (by kernel_rfl) (o := none) Bar13_run rfl σ
      rw [show (n == Int.ofNat 13) = false by simpa using e13] at h
      simp only [cond_false] at h
      cases h
    · cases h
  · unfold sBk at h
    split at h
    · unfold rowAns at h
      split at h
      · cases h; simp
      · cases h
    · cases h
def ofCod (n : Int) : Option (List Value) := bif n == Int.ofNat 1 then some ob2 else bif n == Int.ofNat 2 then some ob3 else bif n == Int.ofNat 3 then some ob4 else bif n == Int.ofNat 4 then some ob5 else bif n == Int.ofNat 5 then some ob7 else bif n == Int.ofNat 6 then some ob11 else bif n == Int.ofNat 7 then some ob13 else none
def sCode : HeapFn
  | [.int .i64 n], σ => rowAns (ofCod n) σ
  | _, _ => none
theorem Cod_ok2 : (match Try.f77.body with | some b => codeOk (LBc.cfg 100 6) b | none => false) = true := by kernel_rfl
theorem Cod1_run : ((DFn (LBc.cfg 100 6) 100 Try.f77 [.int .i64 1] []).map fun y => (y.1, y.2[5]?)) = some (.tuple #[.slice (some ⟨5, 0, some 1⟩) 2 2, .int .i64 0], some (.row ob2 true (some 1))) := by kernel_rfl
theorem Cod2_run : ((DFn (LBc.cfg 100 6) 100 Try.f77 [.int .i64 2] []).map fun y => (y.1, y.2[7]?)) = some (.tuple #[.slice (some ⟨7, 0, some 1⟩) 3 3, .int .i64 0], some (.row ob3 true (some 1))) := by kernel_rfl
theorem Cod3_run : ((DFn (LBc.cfg 100 6) 100 Try.f77 [.int .i64 3] []).map fun y => (y.1, y.2[9]?)) = some (.tuple #[.slice (some ⟨9, 0, some 1⟩) 4 4, .int .i64 0], some (.row ob4 true (some 1))) := by kernel_rfl
theorem Cod4_run : ((DFn (LBc.cfg 100 6) 100 Try.f77 [.int .i64 4] []).map fun y => (y.1, y.2[11]?)) = some (.tuple #[.slice (some ⟨11, 0, some 1⟩) 5 5, .int .i64 0], some (.row ob5 true (some 1))) := by kernel_rfl
theorem Cod5_run : ((DFn (LBc.cfg 100 6) 100 Try.f77 [.int .i64 5] []).map fun y => (y.1, y.2[15]?)) = some (.tuple #[.slice (some ⟨15, 0, some 1⟩) 7 7, .int .i64 0], some (.row ob7 true (some 1))) := by kernel_rfl
theorem Cod6_run : ((DFn (LBc.cfg 100 6) 100 Try.f77 [.int .i64 6] []).map fun y => (y.1, y.2[23]?)) = some (.tuple #[.slice (some ⟨23, 0, some 1⟩) 11 11, .int .i64 0], some (.row ob11 true (some 1))) := by kernel_rfl
theorem Cod7_run : ((DFn (LBc.cfg 100 6) 100 Try.f77 [.int .i64 7] []).map fun y => (y.1, y.2[27]?)) = some (.tuple #[.slice (some ⟨27, 0, some 1⟩) 13 13, .int .i64 0], some (.row ob13 true (some 1))) := by kernel_rfl
theorem sCode_ok : IsHeap Try.prog false 77 false sCode := by
  refine ⟨fun args σ v σ' h => ?_, (by intro h; cases h), fun args σ v σ' h => ?_⟩
  · unfold sCode at h
    split at h
    · rename_i n
      unfold ofCod at h
      by_cases e1 : n = 1
      · subst e1
        have h : rowAns (some ob2) σ = some (v, σ') := h
        cases h
        exact bar_call (n := 2) Try.func77 Cod_ok2 (by kernel_rfl) (o := none) Cod1_run rfl σ
      rw [show (n == Int.ofNat 1) = false by simpa using e1] at h
      simp only [cond_false] at h
      by_cases e2 : n = 2
      · subst e2
        have h : rowAns (some ob3) σ = some (v, σ') := h
        cases h
        exact bar_call (n := 3) Try.func77 Cod_ok2 (by kernel_rfl) (o := none) Cod2_run rfl σ
      rw [show (n == Int.ofNat 2) = false by simpa using e2] at h
      simp only [cond_false] at h
      by_cases e3 : n = 3
      · subst e3
        have h : rowAns (some ob4) σ = some (v, σ') := h
        cases h
        exact bar_call (n := 4) Try.func77 Cod_ok2 (by kernel_rfl) (o := none) Cod3_run rfl σ
      rw [show (n == Int.ofNat 3) = false by simpa using e3] at h
      simp only [cond_false] at h
      by_cases e4 : n = 4
      · subst e4
        have h : rowAns (some ob5) σ = some (v, σ') := h
        cases h
        exact bar_call (n := 5) Try.func77 Cod_ok2 (by kernel_rfl) (o := none) Cod4_run rfl σ
      rw [show (n == Int.ofNat 4) = false by simpa using e4] at h
      simp only [cond_false] at h
      by_cases e5 : n = 5
      · subst e5
        have h : rowAns (some ob7) σ = some (v, σ') := h
        cases h
        exact bar_call (n := 7) Try.func77 Cod_ok2 (by kernel_rfl) (o := none) Cod5_run rfl σ
      rw [show (n == Int.ofNat 5) = false by simpa using e5] at h
      simp only [cond_false] at h
      by_cases e6 : n = 6
      · subst e6
        have h : rowAns (some ob11) σ = some (v, σ') := h
        cases h
        exact bar_call (n := 11) Try.func77 Cod_ok2 (by kernel_rfl) (o := none) Cod6_run rfl σ
      rw [show (n == Int.ofNat 6) = false by simpa using e6] at h
      simp only [cond_false] at h
      by_cases e7 : n = 7
      · subst e7
        have h : rowAns (some ob13) σ = some (v, σ') := h
        cases h
        exact bar_call (n := 13) Try.func77 Cod_ok2 (by kernel_rfl) (o := none) Cod7_run rfl σ
      rw [show (n == Int.ofNat 7) = false by simpa using e7] at h
      simp only [cond_false] at h
      cases h
    · cases h
  · unfold sCode at h
    split at h
    · unfold rowAns at h
      split at h
      · cases h; simp
      · cases h
    · cases h
noncomputable def tpk : Tab := (((t1.addH 68 false sOwn).addH 75 false sBk).addH 77 false sCode).addP 64 sWakes
theorem tpk_ok : tpk.Ok Try.prog false := Tab.Ok.addP (Tab.Ok.addH (Tab.Ok.addH (Tab.Ok.addH t1_ok sOwn_ok) sBk_ok) sCode_ok) sWakes_ok
end Go.Lk
