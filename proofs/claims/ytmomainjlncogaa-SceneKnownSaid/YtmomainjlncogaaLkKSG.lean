/- gate.Check and Turn at some values. -/
import Derived.Test.YtmomainjlncogaaLkKSX
import Derived.Test.YtmomainjlncogaaLkGC
namespace Go.Lk
open Go.Proofs
set_option maxRecDepth 100000
set_option linter.unusedVariables false
noncomputable def LSg : Lib := ⟨Try.prog, false, t1, [(209, Try.f209)], []⟩
theorem LSg_fp : ∀ e, e ∈ LSg.pures → Try.prog.funcs[e.1]? = some e.2 := fs_cons Try.func209 (fs_nil)
theorem LSg_fh : ∀ e, e ∈ LSg.heaps → Try.prog.funcs[e.1]? = some e.2.2 := gs_nil
theorem LSg_p1 (gp : Nat → PureFn) (g : Nat → HeapFn) : (LSg.pures.all fun e => fnOk (LSg.mk' gp g) e.2) = true := by kernel_rfl
theorem LSg_h1 (gp : Nat → PureFn) (g : Nat → HeapFn) : (LSg.heaps.all fun e => fnOk (LSg.mk' gp g) e.2.2 && (!e.2.1 || fnRo (LSg.mk' gp g) e.2.2)) = true := by kernel_rfl
theorem LSg_ok : LSg.Ok := ⟨t1_ok, mixed, LSg_fp, LSg_fh, LSg_p1, LSg_h1⟩
theorem sg_ok : (match Try.f197.body with | some b => codeOk (LSg.cfg 500 12) b | none => false) = true := by kernel_rfl
theorem sg_runb : ((DFn (LSg.cfg 500 12) 500 Try.f197 [.agg #[.float .f64 4621819117588971520, .float .f64 4602678819172646912, .float .f64 4652007308841189376, .int .i64 8, .int .i64 2]] []).map fun x => x.1) = some (.int .i64 0) := by kernel_rfl
theorem sg_callb : CallR Try.prog false 197 [.agg #[.float .f64 4621819117588971520, .float .f64 4602678819172646912, .float .f64 4652007308841189376, .int .i64 8, .int .i64 2]] [] (.int .i64 0) [] := by
  have h := sg_runb
  cases hd : DFn (LSg.cfg 500 12) 500 Try.f197 [.agg #[.float .f64 4621819117588971520, .float .f64 4602678819172646912, .float .f64 4652007308841189376, .int .i64 8, .int .i64 2]] [] with
  | none => rw [hd] at h; cases h
  | some x =>
    obtain ⟨v, σ1⟩ := x
    rw [hd] at h
    simp only [Option.map_some, Option.some.injEq] at h
    subst h
    exact CallR.of_DFn_nil (LSg_ok.cfg 500 12) Try.func197 sg_ok (by kernel_rfl) hd rfl
theorem sg_run0 : ((DFn (LSg.cfg 500 12) 500 Try.f197 [.agg #[.float .f64 0, .float .f64 0, .float .f64 0, .int .i64 0, .int .i64 0]] []).map fun x => x.1) = some (.int .i64 80) := by kernel_rfl
theorem sg_call0 : CallR Try.prog false 197 [.agg #[.float .f64 0, .float .f64 0, .float .f64 0, .int .i64 0, .int .i64 0]] [] (.int .i64 80) [] := by
  have h := sg_run0
  cases hd : DFn (LSg.cfg 500 12) 500 Try.f197 [.agg #[.float .f64 0, .float .f64 0, .float .f64 0, .int .i64 0, .int .i64 0]] [] with
  | none => rw [hd] at h; cases h
  | some x =>
    obtain ⟨v, σ1⟩ := x
    rw [hd] at h
    simp only [Option.map_some, Option.some.injEq] at h
    subst h
    exact CallR.of_DFn_nil (LSg_ok.cfg 500 12) Try.func197 sg_ok (by kernel_rfl) hd rfl
def sGate : PureFn
  | [.agg ⟨[.float .f64 a, .float .f64 b, .float .f64 c, .int .i64 d, .int .i64 e]⟩] =>
    if a = 4621819117588971520 ∧ b = 4602678819172646912 ∧ c = 4652007308841189376 ∧ d = 8 ∧ e = 2 then some (.int .i64 0)
    else if a = 0 ∧ b = 0 ∧ c = 0 ∧ d = 0 ∧ e = 0 then some (.int .i64 80) else none
  | _ => none
theorem sGate_ok : IsPure Try.prog false 197 sGate := by
  intro args v σ h
  unfold sGate at h
  split at h
  · split at h
    · rename_i hc
      obtain ⟨rfl, rfl, rfl, rfl, rfl⟩ := hc
      cases h; exact CallR.frame rfl sg_callb rfl
    · split at h
      · rename_i hc
        obtain ⟨rfl, rfl, rfl, rfl, rfl⟩ := hc
        cases h; exact CallR.frame rfl sg_call0 rfl
      · cases h
  · cases h
def tuT : List (Nat × (Nat × Nat)) := [(13867005465138823168, (4607182418800017408, 0)), (13868412840022376448, (4607182418800017408, 0)), (13861516703092965376, (4607182418800017408, 0)), (13861499110906920960, (0, 4607182418800017408)), (13863205552953229312, (4607182418800017408, 0))]
theorem tu_0 : wTurn_0 13867005465138823168 = 4607182418800017408 ∧ wTurn_1 13867005465138823168 = 0 := ⟨by decide +kernel, by decide +kernel⟩
theorem tu_1 : wTurn_0 13868412840022376448 = 4607182418800017408 ∧ wTurn_1 13868412840022376448 = 0 := ⟨by decide +kernel, by decide +kernel⟩
theorem tu_2 : wTurn_0 13861516703092965376 = 4607182418800017408 ∧ wTurn_1 13861516703092965376 = 0 := ⟨by decide +kernel, by decide +kernel⟩
theorem tu_3 : wTurn_0 13861499110906920960 = 0 ∧ wTurn_1 13861499110906920960 = 4607182418800017408 := ⟨by decide +kernel, by decide +kernel⟩
theorem tu_4 : wTurn_0 13863205552953229312 = 4607182418800017408 ∧ wTurn_1 13863205552953229312 = 0 := ⟨by decide +kernel, by decide +kernel⟩
theorem tuT_ok : ∀ e, e ∈ tuT → wTurn_0 e.1 = e.2.1 ∧ wTurn_1 e.1 = e.2.2 := by
  intro e h
  unfold tuT at h
  simp only [List.mem_cons, List.not_mem_nil, or_false] at h
  rcases h with rfl | rfl | rfl | rfl | rfl
  · exact tu_0
  · exact tu_1
  · exact tu_2
  · exact tu_3
  · exact tu_4
def sTuT : PureFn
  | [.float .f64 x] => match look tuT x with
    | some (c, s) => some (.complex .f64 c s)
    | none => none
  | _ => none
theorem sTuT_ok : IsPure Try.prog false 36 sTuT := by
  intro args v σ h
  unfold sTuT at h
  split at h
  · rename_i x
    split at h
    · rename_i c s hl
      cases h
      obtain ⟨h1, h2⟩ := tuT_ok _ (look_mem hl)
      refine sTurn_ok _ _ _ ?_
      unfold sTurn
      simp only at h1 h2 ⊢
      rw [h1, h2]
    · cases h
  · cases h
end Go.Lk
