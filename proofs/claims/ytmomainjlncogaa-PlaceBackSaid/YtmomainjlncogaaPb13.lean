import Derived.Test.YtmomainjlncogaaPb12
import Derived.Test.YtmomainjlncogaaPb8
import Derived.Test.YtmomainjlncogaaPb7
import Derived.Test.YtmomainjlncogaaPb4
import Derived.Test.YtmomainjlncogaaProg
import Derived.JoinedOf
import Derived.KernelRfl
section
/- PlaceBack: its parts joined. -/
namespace Go.Lk
open Go.Proofs
set_option maxRecDepth 100000
set_option maxHeartbeats 0
set_option linter.unusedVariables false
set_option linter.unusedSimpArgs false
section
variable (m b u v t x y : Nat) (q i j k l : Int)
theorem pc_2 : partOf Try.f11 20 = .seq (partOf Try.f11 21) (partOf Try.f11 22) := by kernel_rfl
theorem pc_5 : partOf Try.f11 50 = .seq (partOf Try.f11 51) (partOf Try.f11 52) := by kernel_rfl
theorem pc_8 : partOf Try.f11 80 = .seq (partOf Try.f11 81) (partOf Try.f11 82) := by kernel_rfl
/-- To and from. -/
theorem pb_P1 (hst : Stood false []) (h : pb2_0 m b u v t x y q i j k l = true → fle (fabs (fsub (wFrom_0 (wTo_0 m b) (wTo_1 m b)) m)) (fmul 4397347889687374747 m) = true ∧ fle (fabs (wrapP (fsub (wFrom_1 (wTo_0 m b) (wTo_1 m b)) (wrapP b)))) 4397347889687374747 = true) :
    Sim dLPc 0 (partOf Try.f11 20) (pbF m b q i j k l) (pbH u v t x y) .normal (pbF m b q i j k l) (pbH u v t x y) := by
  have s1 := pb2_s m b u v t x y q i j k l hst
  rw [pc_2]
  cases hg : pb2_0 m b u v t x y q i j k l
  · rw [hg] at s1
    exact Sim.seq s1 ((pb3_p0 m b u v t x y q i j k l hst).cast (by kernel_rfl) (by kernel_rfl) (by kernel_rfl) (by kernel_rfl))
  · rw [hg] at s1
    exact Sim.seq s1 ((pb4_p0 m b u v t x y q i j k l (h hg).1 (h hg).2 hst).cast (by kernel_rfl) (by kernel_rfl) (by kernel_rfl) (by kernel_rfl))
/-- Whole numbers and quarters. -/
theorem pb_P2 (hst : Stood false []) (h : pb6_0 m b u v t x y q i j k l = true → pb7_0 m b u v t x y q i j k l = true →
    (feq (wBack_0 (FloatKind.f64.nearest i) (FloatKind.f64.nearest j) (fdiv (FloatKind.f64.nearest q) 4616189618054758400) (wMoved_0 (FloatKind.f64.nearest i) (FloatKind.f64.nearest j) (fdiv (FloatKind.f64.nearest q) 4616189618054758400) (FloatKind.f64.nearest k) (FloatKind.f64.nearest l)) (wMoved_1 (FloatKind.f64.nearest i) (FloatKind.f64.nearest j) (fdiv (FloatKind.f64.nearest q) 4616189618054758400) (FloatKind.f64.nearest k) (FloatKind.f64.nearest l))) (FloatKind.f64.nearest k) && (feq (wBack_1 (FloatKind.f64.nearest i) (FloatKind.f64.nearest j) (fdiv (FloatKind.f64.nearest q) 4616189618054758400) (wMoved_0 (FloatKind.f64.nearest i) (FloatKind.f64.nearest j) (fdiv (FloatKind.f64.nearest q) 4616189618054758400) (FloatKind.f64.nearest k) (FloatKind.f64.nearest l)) (wMoved_1 (FloatKind.f64.nearest i) (FloatKind.f64.nearest j) (fdiv (FloatKind.f64.nearest q) 4616189618054758400) (FloatKind.f64.nearest k) (FloatKind.f64.nearest l))) (FloatKind.f64.nearest l) && true)) = true ∧
    (feq (wMoved_0 (FloatKind.f64.nearest i) (FloatKind.f64.nearest j) (fdiv (FloatKind.f64.nearest q) 4616189618054758400) (wBack_0 (FloatKind.f64.nearest i) (FloatKind.f64.nearest j) (fdiv (FloatKind.f64.nearest q) 4616189618054758400) (FloatKind.f64.nearest k) (FloatKind.f64.nearest l)) (wBack_1 (FloatKind.f64.nearest i) (FloatKind.f64.nearest j) (fdiv (FloatKind.f64.nearest q) 4616189618054758400) (FloatKind.f64.nearest k) (FloatKind.f64.nearest l))) (FloatKind.f64.nearest k) && (feq (wMoved_1 (FloatKind.f64.nearest i) (FloatKind.f64.nearest j) (fdiv (FloatKind.f64.nearest q) 4616189618054758400) (wBack_0 (FloatKind.f64.nearest i) (FloatKind.f64.nearest j) (fdiv (FloatKind.f64.nearest q) 4616189618054758400) (FloatKind.f64.nearest k) (FloatKind.f64.nearest l)) (wBack_1 (FloatKind.f64.nearest i) (FloatKind.f64.nearest j) (fdiv (FloatKind.f64.nearest q) 4616189618054758400) (FloatKind.f64.nearest k) (FloatKind.f64.nearest l))) (FloatKind.f64.nearest l) && true)) = true) :
    Sim dLPc 0 (partOf Try.f11 50) ((pbF m b q i j k l).set 22 (.bool (pb6_0 m b u v t x y q i j k l))) (pbH u v t x y) .normal (pbF m b q i j k l) (pbH u v t x y) := by
  rw [pc_5]
  have s8 : Sim dLPc 0 (partOf Try.f11 52) ((pbF m b q i j k l).set 98 (.bool false)) (pbH u v t x y) .normal (pbF m b q i j k l) (pbH u v t x y) := (pb8_p0 m b u v t x y q i j k l hst).cast (by kernel_rfl) (by kernel_rfl) (by kernel_rfl) (by kernel_rfl)
  cases hg : pb6_0 m b u v t x y q i j k l
  · exact Sim.seq (pb7f_p0 m b u v t x y q i j k l hst) s8
  · have s7 := pb7_s m b u v t x y q i j k l hst
    cases hf : pb7_0 m b u v t x y q i j k l
    · rw [hf] at s7
      exact Sim.seq s7 s8
    · rw [hf] at s7
      exact Sim.seq s7 ((pb9_p0 m b u v t x y q i j k l (h hg hf).1 (h hg hf).2 hst).cast (by kernel_rfl) (by kernel_rfl) (by kernel_rfl) (by kernel_rfl))
theorem pb_body : Try.f11.body = some (.seq (partOf Try.f11 0) (.seq (partOf Try.f11 10) (.seq (partOf Try.f11 20) (.seq (partOf Try.f11 30) (.seq (partOf Try.f11 40) (.seq (partOf Try.f11 50) (.seq (partOf Try.f11 60) (.seq (partOf Try.f11 70) (.seq (partOf Try.f11 80) (.seq (partOf Try.f11 90) (.seq (partOf Try.f11 100) (.seq (partOf Try.f11 110) .ret)))))))))))) := by kernel_rfl
noncomputable def pbRest : Code := (.seq (partOf Try.f11 60) (.seq (partOf Try.f11 70) (.seq (partOf Try.f11 80) (.seq (partOf Try.f11 90) (.seq (partOf Try.f11 100) (.seq (partOf Try.f11 110) .ret))))))
noncomputable def pbAll : Code := (.seq (partOf Try.f11 0) (.seq (partOf Try.f11 10) (.seq (partOf Try.f11 20) (.seq (partOf Try.f11 30) (.seq (partOf Try.f11 40) (.seq (partOf Try.f11 50) pbRest))))))
theorem pb_pre (hst : Stood false []) (h1 : pb2_0 m b u v t x y q i j k l = true → fle (fabs (fsub (wFrom_0 (wTo_0 m b) (wTo_1 m b)) m)) (fmul 4397347889687374747 m) = true ∧ fle (fabs (wrapP (fsub (wFrom_1 (wTo_0 m b) (wTo_1 m b)) (wrapP b)))) 4397347889687374747 = true)
    (h2 : pb6_0 m b u v t x y q i j k l = true → pb7_0 m b u v t x y q i j k l = true →
    (feq (wBack_0 (FloatKind.f64.nearest i) (FloatKind.f64.nearest j) (fdiv (FloatKind.f64.nearest q) 4616189618054758400) (wMoved_0 (FloatKind.f64.nearest i) (FloatKind.f64.nearest j) (fdiv (FloatKind.f64.nearest q) 4616189618054758400) (FloatKind.f64.nearest k) (FloatKind.f64.nearest l)) (wMoved_1 (FloatKind.f64.nearest i) (FloatKind.f64.nearest j) (fdiv (FloatKind.f64.nearest q) 4616189618054758400) (FloatKind.f64.nearest k) (FloatKind.f64.nearest l))) (FloatKind.f64.nearest k) && (feq (wBack_1 (FloatKind.f64.nearest i) (FloatKind.f64.nearest j) (fdiv (FloatKind.f64.nearest q) 4616189618054758400) (wMoved_0 (FloatKind.f64.nearest i) (FloatKind.f64.nearest j) (fdiv (FloatKind.f64.nearest q) 4616189618054758400) (FloatKind.f64.nearest k) (FloatKind.f64.nearest l)) (wMoved_1 (FloatKind.f64.nearest i) (FloatKind.f64.nearest j) (fdiv (FloatKind.f64.nearest q) 4616189618054758400) (FloatKind.f64.nearest k) (FloatKind.f64.nearest l))) (FloatKind.f64.nearest l) && true)) = true ∧
    (feq (wMoved_0 (FloatKind.f64.nearest i) (FloatKind.f64.nearest j) (fdiv (FloatKind.f64.nearest q) 4616189618054758400) (wBack_0 (FloatKind.f64.nearest i) (FloatKind.f64.nearest j) (fdiv (FloatKind.f64.nearest q) 4616189618054758400) (FloatKind.f64.nearest k) (FloatKind.f64.nearest l)) (wBack_1 (FloatKind.f64.nearest i) (FloatKind.f64.nearest j) (fdiv (FloatKind.f64.nearest q) 4616189618054758400) (FloatKind.f64.nearest k) (FloatKind.f64.nearest l))) (FloatKind.f64.nearest k) && (feq (wMoved_1 (FloatKind.f64.nearest i) (FloatKind.f64.nearest j) (fdiv (FloatKind.f64.nearest q) 4616189618054758400) (wBack_0 (FloatKind.f64.nearest i) (FloatKind.f64.nearest j) (fdiv (FloatKind.f64.nearest q) 4616189618054758400) (FloatKind.f64.nearest k) (FloatKind.f64.nearest l)) (wBack_1 (FloatKind.f64.nearest i) (FloatKind.f64.nearest j) (fdiv (FloatKind.f64.nearest q) 4616189618054758400) (FloatKind.f64.nearest k) (FloatKind.f64.nearest l))) (FloatKind.f64.nearest l) && true)) = true)
    {e : Exit} {fr1 : List Value} {σ1 : AHeap} (rest : Sim dLPc 0 pbRest (pbF m b q i j k l) (pbH u v t x y) e fr1 σ1) :
    Sim dLPc 0 pbAll ([.float .f64 m, .float .f64 b, .agg #[.float .f64 u, .float .f64 v, .float .f64 t], .agg #[.float .f64 x, .float .f64 y], .int .i64 q, .int .i64 i, .int .i64 j, .int .i64 k, .int .i64 l] ++ List.replicate 182 undef) [] e fr1 σ1 := by
  refine Sim.seq (pb0_p0 m b u v t x y q i j k l hst) (Sim.seq ((pb1_p0 m b u v t x y q i j k l hst).cast (fr1' := pbF m b q i j k l) (σ1' := pbH u v t x y) (by kernel_rfl) (by kernel_rfl) (by kernel_rfl) (by kernel_rfl)) (Sim.seq (pb_P1 m b u v t x y q i j k l hst h1) (Sim.seq ((pb5_p0 m b u v t x y q i j k l hst).cast (fr' := pbF m b q i j k l) (fr1' := (pbF m b q i j k l).set 22 (.bool true)) (σ' := pbH u v t x y) (σ1' := pbH u v t x y) (by kernel_rfl) (by kernel_rfl) (by kernel_rfl) (by kernel_rfl)) (Sim.seq ((pb6_s m b u v t x y q i j k l hst).cast (fr' := (pbF m b q i j k l).set 22 (.bool true)) (fr1' := (pbF m b q i j k l).set 22 (.bool (pb6_0 m b u v t x y q i j k l))) (σ' := pbH u v t x y) (σ1' := pbH u v t x y) (by kernel_rfl) (by kernel_rfl) (by kernel_rfl) (by kernel_rfl)) (Sim.seq (pb_P2 m b u v t x y q i j k l hst h2) rest)))))
theorem pb_of {e : Exit} {fr1 : List Value} {σ1 : AHeap} (h : Stood false [] → Sim dLPc 0 pbAll ([.float .f64 m, .float .f64 b, .agg #[.float .f64 u, .float .f64 v, .float .f64 t], .agg #[.float .f64 x, .float .f64 y], .int .i64 q, .int .i64 i, .int .i64 j, .int .i64 k, .int .i64 l] ++ List.replicate 182 undef) [] e fr1 σ1) (he : e = .normal ∨ e = .ret) (hr : aResults Try.prog Try.f11 fr1 σ1 = some (.bool true)) :
    CallR Try.prog false 11 [.float .f64 m, .float .f64 b, .agg #[.float .f64 u, .float .f64 v, .float .f64 t], .agg #[.float .f64 x, .float .f64 y], .int .i64 q, .int .i64 i, .int .i64 j, .int .i64 k, .int .i64 l] [] (.bool true) σ1 :=
  fun B μ w cargs hr' hargs => CallR.of_sim_raw (C := dLPc) dLPc_ok Try.func11 pb_body (by kernel_rfl) (h ⟨B, μ, w, hr'⟩) he hr B μ w cargs hr' hargs
theorem pb_call (h1 : pb2_0 m b u v t x y q i j k l = true → fle (fabs (fsub (wFrom_0 (wTo_0 m b) (wTo_1 m b)) m)) (fmul 4397347889687374747 m) = true ∧ fle (fabs (wrapP (fsub (wFrom_1 (wTo_0 m b) (wTo_1 m b)) (wrapP b)))) 4397347889687374747 = true)
    (h2 : pb6_0 m b u v t x y q i j k l = true → pb7_0 m b u v t x y q i j k l = true →
    (feq (wBack_0 (FloatKind.f64.nearest i) (FloatKind.f64.nearest j) (fdiv (FloatKind.f64.nearest q) 4616189618054758400) (wMoved_0 (FloatKind.f64.nearest i) (FloatKind.f64.nearest j) (fdiv (FloatKind.f64.nearest q) 4616189618054758400) (FloatKind.f64.nearest k) (FloatKind.f64.nearest l)) (wMoved_1 (FloatKind.f64.nearest i) (FloatKind.f64.nearest j) (fdiv (FloatKind.f64.nearest q) 4616189618054758400) (FloatKind.f64.nearest k) (FloatKind.f64.nearest l))) (FloatKind.f64.nearest k) && (feq (wBack_1 (FloatKind.f64.nearest i) (FloatKind.f64.nearest j) (fdiv (FloatKind.f64.nearest q) 4616189618054758400) (wMoved_0 (FloatKind.f64.nearest i) (FloatKind.f64.nearest j) (fdiv (FloatKind.f64.nearest q) 4616189618054758400) (FloatKind.f64.nearest k) (FloatKind.f64.nearest l)) (wMoved_1 (FloatKind.f64.nearest i) (FloatKind.f64.nearest j) (fdiv (FloatKind.f64.nearest q) 4616189618054758400) (FloatKind.f64.nearest k) (FloatKind.f64.nearest l))) (FloatKind.f64.nearest l) && true)) = true ∧
    (feq (wMoved_0 (FloatKind.f64.nearest i) (FloatKind.f64.nearest j) (fdiv (FloatKind.f64.nearest q) 4616189618054758400) (wBack_0 (FloatKind.f64.nearest i) (FloatKind.f64.nearest j) (fdiv (FloatKind.f64.nearest q) 4616189618054758400) (FloatKind.f64.nearest k) (FloatKind.f64.nearest l)) (wBack_1 (FloatKind.f64.nearest i) (FloatKind.f64.nearest j) (fdiv (FloatKind.f64.nearest q) 4616189618054758400) (FloatKind.f64.nearest k) (FloatKind.f64.nearest l))) (FloatKind.f64.nearest k) && (feq (wMoved_1 (FloatKind.f64.nearest i) (FloatKind.f64.nearest j) (fdiv (FloatKind.f64.nearest q) 4616189618054758400) (wBack_0 (FloatKind.f64.nearest i) (FloatKind.f64.nearest j) (fdiv (FloatKind.f64.nearest q) 4616189618054758400) (FloatKind.f64.nearest k) (FloatKind.f64.nearest l)) (wBack_1 (FloatKind.f64.nearest i) (FloatKind.f64.nearest j) (fdiv (FloatKind.f64.nearest q) 4616189618054758400) (FloatKind.f64.nearest k) (FloatKind.f64.nearest l))) (FloatKind.f64.nearest l) && true)) = true)

    (h3 : fle (fabs u) 6103021453049119613 = true → fle (fabs v) 6103021453049119613 = true → fle (fabs x) 6103021453049119613 = true → fle (fabs y) 6103021453049119613 = true → pb12_0 m b u v t x y q i j k l (fadd (fadd (fadd (fadd 0 (fabs u)) (fabs v)) (fabs x)) (fabs y)) = false → pb17_0 m b u v t x y q i j k l (fmul 4397347889687374747 (fadd (fadd (fadd (fadd 0 (fabs u)) (fabs v)) (fabs x)) (fabs y))) (wBack_0 u v t (wMoved_0 u v t x y) (wMoved_1 u v t x y)) (wBack_1 u v t (wMoved_0 u v t x y) (wMoved_1 u v t x y)) = true) :
    ∃ σ1, CallR Try.prog false 11 [.float .f64 m, .float .f64 b, .agg #[.float .f64 u, .float .f64 v, .float .f64 t], .agg #[.float .f64 x, .float .f64 y], .int .i64 q, .int .i64 i, .int .i64 j, .int .i64 k, .int .i64 l] [] (.bool true) σ1 := by
  have s6 : Stood false [] → Sim dLPc 0 (partOf Try.f11 60) (pbF m b q i j k l) (pbH u v t x y) .normal ((pbF m b q i j k l).set 27 (.float .f64 0)) (pbH u v t x y) := fun hst => (pb10_p0 m b u v t x y q i j k l hst).cast (by kernel_rfl) (by kernel_rfl) (by kernel_rfl) (by kernel_rfl)
  cases c0 : fle (fabs u) 6103021453049119613
  · exact ⟨_, pb_of m b u v t x y q i j k l (fun hst => pb_pre m b u v t x y q i j k l hst h1 h2 (Sim.seq (s6 hst) (Sim.seq_out (pb11a_p0 m b u v t x y q i j k l c0 hst) rfl))) (.inr rfl) (by kernel_rfl)⟩
  cases c1 : fle (fabs v) 6103021453049119613
  · exact ⟨_, pb_of m b u v t x y q i j k l (fun hst => pb_pre m b u v t x y q i j k l hst h1 h2 (Sim.seq (s6 hst) (Sim.seq_out (pb11b_p0 m b u v t x y q i j k l c0 c1 hst) rfl))) (.inr rfl) (by kernel_rfl)⟩
  cases c2 : fle (fabs x) 6103021453049119613
  · exact ⟨_, pb_of m b u v t x y q i j k l (fun hst => pb_pre m b u v t x y q i j k l hst h1 h2 (Sim.seq (s6 hst) (Sim.seq_out (pb11c_p0 m b u v t x y q i j k l c0 c1 c2 hst) rfl))) (.inr rfl) (by kernel_rfl)⟩
  cases c3 : fle (fabs y) 6103021453049119613
  · exact ⟨_, pb_of m b u v t x y q i j k l (fun hst => pb_pre m b u v t x y q i j k l hst h1 h2 (Sim.seq (s6 hst) (Sim.seq_out (pb11d_p0 m b u v t x y q i j k l c0 c1 c2 c3 hst) rfl))) (.inr rfl) (by kernel_rfl)⟩
  have s7 : Stood false [] → Sim dLPc 0 (partOf Try.f11 70) ((pbF m b q i j k l).set 27 (.float .f64 0)) (pbH u v t x y) .normal ((pbF m b q i j k l).set 27 (.float .f64 (fadd (fadd (fadd (fadd 0 (fabs u)) (fabs v)) (fabs x)) (fabs y)))) (pbH u v t x y) := fun hst => (pb11_p0 m b u v t x y q i j k l c0 c1 c2 c3 hst).cast (by kernel_rfl) (by kernel_rfl) (by kernel_rfl) (by kernel_rfl)
  cases hb : pb12_0 m b u v t x y q i j k l (fadd (fadd (fadd (fadd 0 (fabs u)) (fabs v)) (fabs x)) (fabs y))
  · have s8 : Stood false [] → Sim dLPc 0 (partOf Try.f11 80) ((pbF m b q i j k l).set 27 (.float .f64 (fadd (fadd (fadd (fadd 0 (fabs u)) (fabs v)) (fabs x)) (fabs y)))) (pbH u v t x y) .normal ((pbF m b q i j k l).set 27 (.float .f64 (fadd (fadd (fadd (fadd 0 (fabs u)) (fabs v)) (fabs x)) (fabs y)))) (pbH u v t x y) := fun hst => by
      rw [pc_8]
      have e1 := pb12_s m b u v t x y q i j k l (fadd (fadd (fadd (fadd 0 (fabs u)) (fabs v)) (fabs x)) (fabs y)) hst
      rw [hb] at e1
      exact Sim.seq e1 ((pb13_p0 m b u v t x y q i j k l (fadd (fadd (fadd (fadd 0 (fabs u)) (fabs v)) (fabs x)) (fabs y)) hst).cast (by kernel_rfl) (by kernel_rfl) (by kernel_rfl) (by kernel_rfl))
    have s9 : Stood false [] → Sim dLPc 0 (partOf Try.f11 90) ((pbF m b q i j k l).set 27 (.float .f64 (fadd (fadd (fadd (fadd 0 (fabs u)) (fabs v)) (fabs x)) (fabs y)))) (pbH u v t x y) .normal (((pbF m b q i j k l).set 27 (.float .f64 (fadd (fadd (fadd (fadd 0 (fabs u)) (fabs v)) (fabs x)) (fabs y)))).set 30 (.pointer (some ⟨2, 0, none⟩))) (pbH u v t x y ++ [.row [.float .f64 (wBack_0 u v t (wMoved_0 u v t x y) (wMoved_1 u v t x y)), .float .f64 (wBack_1 u v t (wMoved_0 u v t x y) (wMoved_1 u v t x y))] true none]) := fun hst => (pb15_p0 m b u v t x y q i j k l (fadd (fadd (fadd (fadd 0 (fabs u)) (fabs v)) (fabs x)) (fabs y)) hst).cast (by kernel_rfl) (by kernel_rfl) (by kernel_rfl) (by kernel_rfl)
    have s10 : Stood false [] → Sim dLPc 0 (partOf Try.f11 100) (((pbF m b q i j k l).set 27 (.float .f64 (fadd (fadd (fadd (fadd 0 (fabs u)) (fabs v)) (fabs x)) (fabs y)))).set 30 (.pointer (some ⟨2, 0, none⟩))) (pbH u v t x y ++ [.row [.float .f64 (wBack_0 u v t (wMoved_0 u v t x y) (wMoved_1 u v t x y)), .float .f64 (wBack_1 u v t (wMoved_0 u v t x y) (wMoved_1 u v t x y))] true none]) .normal (((pbF m b q i j k l).set 30 (.pointer (some ⟨2, 0, none⟩))).set 31 (.float .f64 (fmul 4397347889687374747 (fadd (fadd (fadd (fadd 0 (fabs u)) (fabs v)) (fabs x)) (fabs y))))) (pbH u v t x y ++ [.row [.float .f64 (wBack_0 u v t (wMoved_0 u v t x y) (wMoved_1 u v t x y)), .float .f64 (wBack_1 u v t (wMoved_0 u v t x y) (wMoved_1 u v t x y))] true none]) := fun hst => (pb16_p0 m b u v t x y q i j k l (fadd (fadd (fadd (fadd 0 (fabs u)) (fabs v)) (fabs x)) (fabs y)) (wBack_0 u v t (wMoved_0 u v t x y) (wMoved_1 u v t x y)) (wBack_1 u v t (wMoved_0 u v t x y) (wMoved_1 u v t x y)) hst).cast (by kernel_rfl) (by kernel_rfl) (by kernel_rfl) (by kernel_rfl)
    have s11 : Stood false [] → Sim dLPc 0 (partOf Try.f11 110) (((pbF m b q i j k l).set 30 (.pointer (some ⟨2, 0, none⟩))).set 31 (.float .f64 (fmul 4397347889687374747 (fadd (fadd (fadd (fadd 0 (fabs u)) (fabs v)) (fabs x)) (fabs y))))) (pbH u v t x y ++ [.row [.float .f64 (wBack_0 u v t (wMoved_0 u v t x y) (wMoved_1 u v t x y)), .float .f64 (wBack_1 u v t (wMoved_0 u v t x y) (wMoved_1 u v t x y))] true none]) .normal ((pbF m b q i j k l).set 18 (.bool true)) (pbH u v t x y ++ [.row [.float .f64 (wBack_0 u v t (wMoved_0 u v t x y) (wMoved_1 u v t x y)), .float .f64 (wBack_1 u v t (wMoved_0 u v t x y) (wMoved_1 u v t x y))] true none]) := fun hst => by
      have e1 := pb17_s m b u v t x y q i j k l (fmul 4397347889687374747 (fadd (fadd (fadd (fadd 0 (fabs u)) (fabs v)) (fabs x)) (fabs y))) (wBack_0 u v t (wMoved_0 u v t x y) (wMoved_1 u v t x y)) (wBack_1 u v t (wMoved_0 u v t x y) (wMoved_1 u v t x y)) hst
      rw [h3 c0 c1 c2 c3 hb] at e1
      exact e1.cast (by kernel_rfl) (by kernel_rfl) (by kernel_rfl) (by kernel_rfl)
    exact ⟨_, pb_of m b u v t x y q i j k l (fun hst => pb_pre m b u v t x y q i j k l hst h1 h2 (Sim.seq (s6 hst) (Sim.seq (s7 hst) (Sim.seq (s8 hst) (Sim.seq (s9 hst) (Sim.seq (s10 hst) (Sim.seq (s11 hst) Sim.ret))))))) (.inr rfl) (by kernel_rfl)⟩
  · have s8 : Stood false [] → Sim dLPc 0 (partOf Try.f11 80) ((pbF m b q i j k l).set 27 (.float .f64 (fadd (fadd (fadd (fadd 0 (fabs u)) (fabs v)) (fabs x)) (fabs y)))) (pbH u v t x y) .ret ((pbF m b q i j k l).set 18 (.bool true)) (pbH u v t x y) := fun hst => by
      rw [pc_8]
      have e1 := pb12_s m b u v t x y q i j k l (fadd (fadd (fadd (fadd 0 (fabs u)) (fabs v)) (fabs x)) (fabs y)) hst
      rw [hb] at e1
      exact Sim.seq e1 ((pb14_p0 m b u v t x y q i j k l (fadd (fadd (fadd (fadd 0 (fabs u)) (fabs v)) (fabs x)) (fabs y)) hst).cast (by kernel_rfl) (by kernel_rfl) (by kernel_rfl) (by kernel_rfl))
    exact ⟨_, pb_of m b u v t x y q i j k l (fun hst => pb_pre m b u v t x y q i j k l hst h1 h2 (Sim.seq (s6 hst) (Sim.seq (s7 hst) (Sim.seq_out (s8 hst) rfl)))) (.inr rfl) (by kernel_rfl)⟩
end
end Go.Lk
end

section
/- PlaceBack: the tests (P1). -/
namespace Go.Lk
set_option linter.unusedSimpArgs false
set_option linter.unusedVariables false
set_option maxRecDepth 10000
set_option maxHeartbeats 1000000
theorem fin_m {d : Nat} (h : Canon d) (g1 : fge d 3110860544497550640 = true) (g2 : fle d 6103021453049119613 = true) : isFin d = true := by
  rcases h.three with h | ⟨s, rfl⟩ | rfl
  · exact h
  · cases s
    · exact absurd g2 (by decide +kernel)
    · exact absurd g1 (by decide +kernel)
  · exact absurd g1 (by decide +kernel)
theorem le_qv {x y : Nat} (hx : isFin x = true) (hy : isFin y = true) (h : fle x y = true) : qv x ≤ qv y := by
  rw [fle_fin hx hy] at h
  exact fx_le_qv (of_decide_eq_true h)
theorem ge_qv {x y : Nat} (hx : isFin x = true) (hy : isFin y = true) (h : fge x y = true) : qv y ≤ qv x := by
  rw [fge_fin hx hy] at h
  exact fx_le_qv (of_decide_eq_true h)
theorem rabs_le2 {x e : Rat} (h : Bd x e) : rabs x ≤ e := by
  unfold rabs
  have h1 := h.1
  have h2 := h.2
  split <;> grind
theorem le_abs {x y : Nat} (hx : isFin x = true) (hy : isFin y = true) {e : Rat} (h : Bd (qv x) e) (he : e ≤ qv y) : fle (fabs x) y = true := by
  rw [fabs_rg hx, fle_fin (fin_rg hx) hy]
  refine decide_eq_true (qv_le_fx ?_)
  rw [rabs_rg hx]
  exact Rat.le_trans (rabs_le2 h) he
theorem eta_pos : (0 : Rat) < eta := by unfold eta; decide +kernel
/-- To and from: the tests. -/
theorem p1_law {m b : Nat} (cm : Canon m) (cb : Canon b) (g1 : fge m 3110860544497550640 = true) (g2 : fle m 6103021453049119613 = true) (g3 : feq (fsub b b) 0 = true) :
    fle (fabs (fsub (wFrom_0 (wTo_0 m b) (wTo_1 m b)) m)) (fmul 4397347889687374747 m) = true ∧ fle (fabs (wrapP (fsub (wFrom_1 (wTo_0 m b) (wTo_1 m b)) (wrapP b)))) 4397347889687374747 = true := by
  have fm := fin_m cm g1 g2
  have fb : isFin b = true := by rw [← fin_test cb]; exact g3
  obtain ⟨w1, w2, w3, w4⟩ := wide_q
  have m0 := Rat.le_trans w2 (ge_qv fm w1 g1)
  have m1 := Rat.le_trans (le_qv fm w3 g2) w4
  obtain ⟨t1, t2, t3, t4⟩ := to_from fm cb fb m0 m1
  obtain ⟨e1, e2, e3⟩ := e14_q
  refine ⟨?_, ?_⟩
  · show fle (fabs (fsub (bAbs_0 (fmul (wTurn_0 b) m) (fmul (wTurn_1 b) m)) m)) (fmul 4397347889687374747 m) = true
    have hP : 0 < qv m := by grind
    have ep := eta_pos
    have P0 : 1 / 100000000000000000000000000000000000000000000000000000000000000000000000000000000000000000000000000000 * eta ≤ qv m * eta := Rat.mul_le_mul_of_nonneg_right m0 (Rat.le_of_lt ep)
    have P1 : qv m * eta ≤ 100000000000000000000000000000000000000000000000000000000000000000000000000000000000000000000000000000 * eta := Rat.mul_le_mul_of_nonneg_right m1 (Rat.le_of_lt ep)
    have e0 : eta ≤ 1 / 1000 := by unfold eta; decide +kernel
    have e5 : (1 : Rat) / 100000000000000000 ≤ eta := by unfold eta; decide +kernel
    have PP : qv m * eta * eta ≤ qv m * eta * (1 / 1000) := Rat.mul_le_mul_of_nonneg_left e0 (by grind)
    obtain ⟨u0, u1⟩ := ups_small
    obtain ⟨s1, s2⟩ := sub_Q t1 fm t2 (by grind)
    have c0 : 45 * eta * qv m ≤ qv 4397347889687374747 * qv m := Rat.mul_le_mul_of_nonneg_right e2 (Rat.le_of_lt hP)
    have c1 : qv 4397347889687374747 * qv m ≤ 46 * eta * qv m := Rat.mul_le_mul_of_nonneg_right e3 (Rat.le_of_lt hP)
    obtain ⟨r1, r2⟩ := mul_Q e1 fm (B := 46 * eta * qv m) ⟨by grind, c1⟩ (by grind)
    have r3 := r2.1
    refine le_abs s1 r1 (e := qv m * (33 * eta) + (qv m * (33 * eta) * eta + ups)) ((s2.add t2).of_eq (by grind) |>.mono (by grind)) ?_
    grind
  · exact le_abs t3 e1 t4 (Rat.le_trans (by have := eta_pos; grind) e2)
end Go.Lk
end

section
/- PlaceBack: the tests (P2). -/
namespace Go.Lk
open Go.Proofs
set_option linter.unusedSimpArgs false
set_option linter.unusedVariables false
set_option maxRecDepth 10000
set_option maxHeartbeats 1000000
theorem bif_and {a b : Bool} (h : (bif a then b else false) = true) : a = true ∧ b = true := by cases a <;> simp_all
theorem and3 {a b : Bool} (h1 : a = true) (h2 : b = true) : (a && (b && true)) = true := by rw [h1, h2]; rfl
theorem p2_law {m b u v t x y : Nat} {q i j k l : Int} (h6 : pb6_0 m b u v t x y q i j k l = true) (h7 : pb7_0 m b u v t x y q i j k l = true) :
    (feq (wBack_0 (FloatKind.f64.nearest i) (FloatKind.f64.nearest j) (fdiv (FloatKind.f64.nearest q) 4616189618054758400) (wMoved_0 (FloatKind.f64.nearest i) (FloatKind.f64.nearest j) (fdiv (FloatKind.f64.nearest q) 4616189618054758400) (FloatKind.f64.nearest k) (FloatKind.f64.nearest l)) (wMoved_1 (FloatKind.f64.nearest i) (FloatKind.f64.nearest j) (fdiv (FloatKind.f64.nearest q) 4616189618054758400) (FloatKind.f64.nearest k) (FloatKind.f64.nearest l))) (FloatKind.f64.nearest k) && (feq (wBack_1 (FloatKind.f64.nearest i) (FloatKind.f64.nearest j) (fdiv (FloatKind.f64.nearest q) 4616189618054758400) (wMoved_0 (FloatKind.f64.nearest i) (FloatKind.f64.nearest j) (fdiv (FloatKind.f64.nearest q) 4616189618054758400) (FloatKind.f64.nearest k) (FloatKind.f64.nearest l)) (wMoved_1 (FloatKind.f64.nearest i) (FloatKind.f64.nearest j) (fdiv (FloatKind.f64.nearest q) 4616189618054758400) (FloatKind.f64.nearest k) (FloatKind.f64.nearest l))) (FloatKind.f64.nearest l) && true)) = true ∧
    (feq (wMoved_0 (FloatKind.f64.nearest i) (FloatKind.f64.nearest j) (fdiv (FloatKind.f64.nearest q) 4616189618054758400) (wBack_0 (FloatKind.f64.nearest i) (FloatKind.f64.nearest j) (fdiv (FloatKind.f64.nearest q) 4616189618054758400) (FloatKind.f64.nearest k) (FloatKind.f64.nearest l)) (wBack_1 (FloatKind.f64.nearest i) (FloatKind.f64.nearest j) (fdiv (FloatKind.f64.nearest q) 4616189618054758400) (FloatKind.f64.nearest k) (FloatKind.f64.nearest l))) (FloatKind.f64.nearest k) && (feq (wMoved_1 (FloatKind.f64.nearest i) (FloatKind.f64.nearest j) (fdiv (FloatKind.f64.nearest q) 4616189618054758400) (wBack_0 (FloatKind.f64.nearest i) (FloatKind.f64.nearest j) (fdiv (FloatKind.f64.nearest q) 4616189618054758400) (FloatKind.f64.nearest k) (FloatKind.f64.nearest l)) (wBack_1 (FloatKind.f64.nearest i) (FloatKind.f64.nearest j) (fdiv (FloatKind.f64.nearest q) 4616189618054758400) (FloatKind.f64.nearest k) (FloatKind.f64.nearest l))) (FloatKind.f64.nearest l) && true)) = true := by
  unfold pb6_0 at h6
  unfold pb7_0 at h7
  obtain ⟨i1, h6⟩ := bif_and h6
  obtain ⟨i2, h6⟩ := bif_and h6
  obtain ⟨j1, h6⟩ := bif_and h6
  obtain ⟨j2, h6⟩ := bif_and h6
  obtain ⟨k1, h6⟩ := bif_and h6
  obtain ⟨k2, h6⟩ := bif_and h6
  obtain ⟨l1, l2⟩ := bif_and h6
  obtain ⟨q1, q2⟩ := bif_and h7
  simp only [decide_eq_true_eq, gt_iff_lt] at i1 i2 j1 j2 k1 k2 l1 l2 q1 q2
  have e53 : (2 : Nat) ^ 53 = 9007199254740992 := by decide
  have e50 : (2 : Nat) ^ 50 = 1125899906842624 := by decide
  have e40 : (2 : Nat) ^ 40 = 1099511627776 := by decide
  have w : ∀ {z : Int}, -1125899906842624 < z → z < 1125899906842624 → IsW (FloatKind.f64.nearest z) z := fun h1 h2 => isW_near (by rw [e53]; omega)
  have wq : IsW (FloatKind.f64.nearest q) q := isW_near (by rw [e53]; omega)
  obtain ⟨f1, f2⟩ := quarter_of wq (by rw [e40]; omega)
  obtain ⟨a, c, ha, hc, hab⟩ := quarter_turn (Canon.fdiv _ _) f1 f2
  obtain ⟨r1, r2, r3, r4⟩ := quarter_back (t := 0) ha hc (turn_bd (Canon.fdiv _ _) f1).2.2.1 hab (w k1 k2) (w l1 l2) (w i1 i2) (w j1 j2) (by rw [e50]; omega) (by rw [e50]; omega) (by rw [e50]; omega) (by rw [e50]; omega)
  exact ⟨and3 (IsW.feq_of r1 (w k1 k2)) (IsW.feq_of r2 (w l1 l2)), and3 (IsW.feq_of r3 (w k1 k2)) (IsW.feq_of r4 (w l1 l2))⟩
end Go.Lk
end

section
/- PlaceBack: the tests (P3). -/
namespace Go.Lk
open Go.Proofs
set_option linter.unusedSimpArgs false
set_option linter.unusedVariables false
set_option maxRecDepth 10000
set_option maxHeartbeats 1000000
theorem z_mul {d i : Nat} (hd : isFin d = true) (hi : IsW i 0) : IsW (fmul d i) 0 ∧ IsW (fmul i d) 0 := by
  have e : fx i = 0 := by rw [hi.2, Int.zero_mul]
  have h : fx (fmul d i) = -fx (fmul d i) := fmul_neg hd hi.1 hi.1 (by rw [e]; rfl)
  have q : qv i = 0 := by rw [qv, e]; show (0 : Rat) / UR = 0; rw [Rat.div_def, Rat.zero_mul]
  obtain ⟨f1, _⟩ := mul_Q hd hi.1 (B := 0) (by rw [q, Rat.mul_zero]; exact ⟨by decide, by decide⟩) (by decide)
  have k : IsW (fmul d i) 0 := ⟨f1, by omega⟩
  exact ⟨k, by rw [fmul_comm]; exact k⟩
theorem z_add {p q : Nat} (hp : IsW p 0) (hq : IsW q 0) : IsW (fadd p q) 0 ∧ IsW (fsub p q) 0 := ⟨hp.add hq (by decide), hp.sub hq (by decide)⟩
theorem p3_zero {u v t x y : Nat} (ct : Canon t) (ft : isFin t = true) (hu : IsW u 0) (hv : IsW v 0) (hx : IsW x 0) (hy : IsW y 0) :
    IsW (wBack_0 u v t (wMoved_0 u v t x y) (wMoved_1 u v t x y)) 0 ∧ IsW (wBack_1 u v t (wMoved_0 u v t x y) (wMoved_1 u v t x y)) 0 := by
  obtain ⟨f0, f1, c1, _⟩ := turn_bd ct ft
  obtain ⟨n1, n2, _⟩ := qv_neg c1 f1
  have a1 : IsW (fsub (wMoved_0 u v t x y) u) 0 := (z_add (z_add (z_add (z_mul f1 hy).2 (z_mul f0 hx).2).1 hu).1 hu).2
  have a2 : IsW (fsub (wMoved_1 u v t x y) v) 0 := (z_add (z_add (z_add (z_mul f0 hy).2 (z_mul f1 hx).2).2 hv).1 hv).2
  exact ⟨(z_add (z_mul n1 a2).2 (z_mul f0 a1).2).1, (z_add (z_mul f0 a2).2 (z_mul n1 a1).2).2⟩
end Go.Lk
end

section
/- PlaceBack: the tests (P3). -/
namespace Go.Lk
open Go.Proofs
set_option linter.unusedSimpArgs false
set_option linter.unusedVariables false
set_option maxRecDepth 10000
set_option maxHeartbeats 1000000
theorem add_ge {p q : Nat} (hp : isFin p = true) (hq : isFin q = true) (a : 0 ≤ fx p) (b : 0 ≤ fx q) : fx p ≤ fx (fadd p q) ∧ fx q ≤ fx (fadd p q) := by
  have k : ∀ {r : Nat}, isFin r = true → 0 ≤ fx r → fx r ≤ fx p + fx q → fx r ≤ fx (fadd p q) := by
    intro r hr h0 h1
    rw [fadd_fin hp hq]
    unfold rnd
    split
    · rename_i h
      rw [fx_wd (by decide), fxr_zero, sgn_zero]; omega
    · rename_i h
      have hn : ¬ (fx p + fx q < 0) := by omega
      rw [fx_wd (rung_lt _), decide_eq_false hn]
      have e := fx_abs r
      have h2 := (near_rung (fx p + fx q).natAbs).ge_of (R := rg r) (by have := hr; unfold isFin at this; exact Nat.le_of_lt (of_decide_eq_true this)) (by omega)
      have h3 := fxr_le.2 h2
      show fx r ≤ ((fxr (rung (fx p + fx q).natAbs) : Nat) : Int)
      omega
  exact ⟨k hp a (by omega), k hq b (by omega)⟩
theorem mag {z : Nat} (cz : Canon z) (h : fle (fabs z) 6103021453049119613 = true) : isFin z = true := by
  rcases cz.three with h1 | ⟨s, rfl⟩ | rfl
  · exact h1
  · cases s <;> exact absurd h (by decide +kernel)
  · exact absurd h (by decide +kernel)
theorem hi_q : qv 6103021453049119613 ≤ 20000000000000000000000000000000000000000000000000000000000000000000000000000000000000000000000000000 := by
  have hU := UR_pos
  have h : fx 6103021453049119613 ≤ 20000000000000000000000000000000000000000000000000000000000000000000000000000000000000000000000000000 * (U : Int) := by decide +kernel
  have h2 := Rat.intCast_le_intCast.2 h
  rw [Rat.intCast_mul, ← qv_U] at h2
  have e1 : (((U : Nat) : Int) : Rat) = UR := rfl
  have e2 : ((20000000000000000000000000000000000000000000000000000000000000000000000000000000000000000000000000000 : Int) : Rat) = 20000000000000000000000000000000000000000000000000000000000000000000000000000000000000000000000000000 := rfl
  rw [e1, e2] at h2
  refine Rat.not_lt.1 fun hlt => ?_
  have k := Rat.mul_lt_mul_of_pos_right hlt hU
  grind
theorem mag_q {z : Nat} (fz : isFin z = true) (h : fle (fabs z) 6103021453049119613 = true) : isFin (fabs z) = true ∧ 0 ≤ fx (fabs z) ∧ qv (fabs z) = rabs (qv z) ∧ 0 ≤ qv (fabs z) ∧ qv (fabs z) ≤ 20000000000000000000000000000000000000000000000000000000000000000000000000000000000000000000000000000 ∧ Bd (qv z) (qv (fabs z)) ∧ (fx (fabs z) ≤ 0 → IsW z 0) := by
  have w := wide_q.2.2.1
  have k := Rat.le_trans (le_qv (by rw [fabs_rg fz]; exact fin_rg fz) w h) hi_q
  rw [fabs_rg fz] at k ⊢
  have e : fx (rg z) = ((fxr (rg z) : Nat) : Int) := by unfold fx; rw [rg_rg, rg_sg]; rfl
  have e2 := rabs_rg fz
  have b := bd_rabs (qv z)
  rw [← e2] at b
  refine ⟨fin_rg fz, by omega, e2, b.nonneg, k, b, fun h0 => ⟨fz, ?_⟩⟩
  have := fx_abs z
  omega
theorem sum_step {s a : Nat} {S W D e : Rat} (fs : isFin s = true) (s0 : 0 ≤ fx s) (fa : isFin a = true) (a0 : 0 ≤ fx a) (S0 : 0 ≤ S) (A0 : 0 ≤ qv a) (h : Bd (qv s - S) e) (hW : S + qv a ≤ W) (hL : W ≤ 100000000000000000000000000000000000000000000000000000000000000000000000000000000000000000000000000000000000000) (hD : D = 2 * W * eta + 2 * ups) (he : e ≤ 3 * D) :
    isFin (fadd s a) = true ∧ 0 ≤ fx (fadd s a) ∧ fx s ≤ fx (fadd s a) ∧ fx a ≤ fx (fadd s a) ∧ Bd (qv (fadd s a) - (S + qv a)) (e + D) := by
  obtain ⟨t1, t2, t3, t4⟩ := eta_small
  obtain ⟨u1, u2⟩ := ups_small
  have e0 := h.nonneg
  have k1 : W * eta ≤ W * (1 / 1000000) := Rat.mul_le_mul_of_nonneg_left t2 (by grind)
  have k2 : e * eta ≤ e * (1 / 1000000) := Rat.mul_le_mul_of_nonneg_left t2 e0
  have k3 : (S + qv a) * eta ≤ W * eta := Rat.mul_le_mul_of_nonneg_right hW t1
  have b1 : Bd (qv s + qv a) (S + qv a + e) := ⟨by have := h.1; grind, by have := h.2; grind⟩
  obtain ⟨f1, f2⟩ := add_Q fs fa b1 (by grind)
  obtain ⟨g1, g2⟩ := add_ge fs fa s0 a0
  exact ⟨f1, by omega, g1, g2, ((f2.add h).of_eq (by grind)).mono (by grind)⟩
theorem sum4 {a b c d : Nat} {W D : Rat} (fa : isFin a = true) (a0 : 0 ≤ fx a) (A0 : 0 ≤ qv a) (fb : isFin b = true) (b0 : 0 ≤ fx b) (B0 : 0 ≤ qv b) (fc : isFin c = true) (c0 : 0 ≤ fx c) (C0 : 0 ≤ qv c) (fd : isFin d = true) (d0 : 0 ≤ fx d) (D0 : 0 ≤ qv d)
    (hW : W = qv a + qv b + qv c + qv d) (hL : W ≤ 100000000000000000000000000000000000000000000000000000000000000000000000000000000000000000000000000000000000000) (hD : D = 2 * W * eta + 2 * ups) :
    isFin (fadd (fadd (fadd (fadd 0 a) b) c) d) = true ∧ 0 ≤ fx (fadd (fadd (fadd (fadd 0 a) b) c) d) ∧ fx a ≤ fx (fadd (fadd (fadd (fadd 0 a) b) c) d) ∧ fx b ≤ fx (fadd (fadd (fadd (fadd 0 a) b) c) d) ∧ fx c ≤ fx (fadd (fadd (fadd (fadd 0 a) b) c) d) ∧ fx d ≤ fx (fadd (fadd (fadd (fadd 0 a) b) c) d) ∧ Bd (qv (fadd (fadd (fadd (fadd 0 a) b) c) d) - W) (4 * D) := by
  obtain ⟨t1, t2, t3, t4⟩ := eta_small
  obtain ⟨u1, u2⟩ := ups_small
  have W0 : 0 ≤ W := by grind
  have We := Rat.mul_nonneg W0 t1
  have Dn : 0 ≤ D := by grind
  have z : Bd (qv 0 - 0) 0 := by rw [zero_q]; exact ⟨by decide +kernel, by decide +kernel⟩
  obtain ⟨f1, n1, l1, m1, e1⟩ := sum_step (W := W) (D := D) fin_zero (by rw [fx_0]; omega) fa a0 (by decide) A0 z (by grind) hL hD (by grind)
  obtain ⟨f2, n2, l2, m2, e2⟩ := sum_step (W := W) (D := D) f1 n1 fb b0 (by grind) B0 e1 (by grind) hL hD (by grind)
  obtain ⟨f3, n3, l3, m3, e3⟩ := sum_step (W := W) (D := D) f2 n2 fc c0 (by grind) C0 e2 (by grind) hL hD (by grind)
  obtain ⟨f4, n4, l4, m4, e4⟩ := sum_step (W := W) (D := D) f3 n3 fd d0 (by grind) D0 e3 (by grind) hL hD (by grind)
  exact ⟨f4, n4, by omega, by omega, by omega, by omega, (e4.of_eq (by grind)).mono (by grind)⟩
theorem last_test {g x s : Nat} {W : Rat} (fg : isFin g = true) (fx' : isFin x = true) (fs : isFin s = true) (h : Bd (qv g - qv x) (W * (24 * eta))) (hs : Bd (qv s - W) (W * (9 * eta))) (hL : W ≤ 1000000000000000000000000000000000000000000000000000000000000000000000000000000000000000000000000000000) (hu : ups ≤ W * (1 / 1000 * eta)) :
    fle (fabs (fsub g x)) (fmul 4397347889687374747 s) = true := by
  obtain ⟨t1, t2, t3, t4⟩ := eta_small
  obtain ⟨u1, u2⟩ := ups_small
  obtain ⟨e1, e2, e3⟩ := e14_q
  have ep := eta_pos
  have W0 : 0 ≤ W := by
    refine Rat.not_lt.1 fun hlt => ?_
    have := Rat.mul_lt_mul_of_pos_right hlt ep
    grind
  have We := Rat.mul_nonneg W0 t1
  have Wee : W * eta * eta ≤ W * eta * (1 / 1000000) := Rat.mul_le_mul_of_nonneg_left t2 We
  have We2 : W * eta ≤ W * (1 / 1000000) := Rat.mul_le_mul_of_nonneg_left t2 W0
  obtain ⟨s1, s2⟩ := sub_Q fg fx' h (by grind)
  have q0 : 0 ≤ qv s := by have := hs.1; grind
  have c0 : 45 * eta * qv s ≤ qv 4397347889687374747 * qv s := Rat.mul_le_mul_of_nonneg_right e2 q0
  have c1 : qv 4397347889687374747 * qv s ≤ 46 * eta * qv s := Rat.mul_le_mul_of_nonneg_right e3 q0
  have c2 : eta * qv s ≤ eta * (W * (101 / 100)) := Rat.mul_le_mul_of_nonneg_left (by have := hs.2; grind) t1
  have c3 : eta * (W * (99 / 100)) ≤ eta * qv s := Rat.mul_le_mul_of_nonneg_left (by have := hs.1; grind) t1
  obtain ⟨r1, r2⟩ := mul_Q e1 fs (B := 47 * (W * eta)) ⟨by grind, by grind⟩ (by grind)
  have r3 := r2.1
  refine le_abs s1 r1 (e := W * (24 * eta) + (W * (24 * eta) * eta + ups)) ((s2.add h).of_eq (by grind) |>.mono (by grind)) ?_
  clear s2 r2 h hs
  grind
/-- Moved and back: the tests. -/
theorem p3_law {u v t x y : Nat} {m b : Nat} {q i j k l : Int} (cu : Canon u) (cv : Canon v) (ct : Canon t) (cx : Canon x) (cy : Canon y) (g1 : fle (fabs u) 6103021453049119613 = true) (g2 : fle (fabs v) 6103021453049119613 = true) (g3 : fle (fabs x) 6103021453049119613 = true) (g4 : fle (fabs y) 6103021453049119613 = true)
    (g5 : pb12_0 m b u v t x y q i j k l (fadd (fadd (fadd (fadd 0 (fabs u)) (fabs v)) (fabs x)) (fabs y)) = false) :
    pb17_0 m b u v t x y q i j k l (fmul 4397347889687374747 (fadd (fadd (fadd (fadd 0 (fabs u)) (fabs v)) (fabs x)) (fabs y))) (wBack_0 u v t (wMoved_0 u v t x y) (wMoved_1 u v t x y)) (wBack_1 u v t (wMoved_0 u v t x y) (wMoved_1 u v t x y)) = true := by
  have fu := mag cu g1
  have fv := mag cv g2
  have fx' := mag cx g3
  have fy := mag cy g4
  obtain ⟨a1, a2, a3, a4, a5, a6, a7⟩ := mag_q fu g1
  obtain ⟨b1, b2, b3, b4, b5, b6, b7⟩ := mag_q fv g2
  obtain ⟨c1, c2, c3, c4, c5, c6, c7⟩ := mag_q fx' g3
  obtain ⟨d1, d2, d3, d4, d5, d6, d7⟩ := mag_q fy g4
  obtain ⟨t1, t2, t3, t4⟩ := eta_small
  obtain ⟨u1, u2⟩ := ups_small
  have key := fun W D hW hD hL => sum4 (W := W) (D := D) a1 a2 a4 b1 b2 b4 c1 c2 c4 d1 d2 d4 hW hL hD
  unfold pb12_0 at g5
  unfold pb17_0
  revert key g5
  generalize hs : fadd (fadd (fadd (fadd 0 (fabs u)) (fabs v)) (fabs x)) (fabs y) = s
  intro g5 key
  have ft : isFin t = true := by
    rw [← fin_test ct]
    cases h : feq (fsub t t) 0
    · rw [h, cond_false] at g5; exact absurd g5 (by decide)
    · rfl
  rw [fin_test ct, ft, cond_true] at g5
  obtain ⟨fs, s0, p1, p2, p3, p4, er⟩ := key (qv (fabs u) + qv (fabs v) + qv (fabs x) + qv (fabs y)) _ rfl rfl (by grind)
  cases hp : fgt s 0
  · rw [fgt_fin fs fin_zero, fx_0] at hp
    have hp2 := of_decide_eq_false hp
    have zu := a7 (by omega)
    have zv := b7 (by omega)
    have zx := c7 (by omega)
    have zy := d7 (by omega)
    obtain ⟨z0, z1⟩ := p3_zero ct ft zu zv zx zy
    have zs : IsW s 0 := ⟨fs, by omega⟩
    have zm := (z_mul e14_q.1 zs).1
    have fin : ∀ {g w : Nat}, IsW g 0 → IsW w 0 → fle (fabs (fsub g w)) (fmul 4397347889687374747 s) = true := by
      intro g w hg hw
      have h1 := (z_add hg hw).2.fabs_of
      rw [fle_fin h1.1 zm.1, h1.2, zm.2]
      exact decide_eq_true (by show (((0 : Int).natAbs : Nat) : Int) * (U : Int) ≤ 0 * (U : Int); exact Int.le_refl _)
    rw [fin z0 zx, fin z1 zy]; rfl
  · rw [hp, cond_true] at g5
    obtain ⟨w1, w2, _⟩ := wide_q
    rw [flt_fin fs w1] at g5
    have lo := Rat.le_trans w2 (fx_le_qv (show fx 3110860544497550640 ≤ fx s by have := of_decide_eq_false g5; omega))
    generalize hW : qv (fabs u) + qv (fabs v) + qv (fabs x) + qv (fabs y) = W at er
    have W0 : 0 ≤ W := by grind
    have We2 : W * eta ≤ W * (1 / 1000000) := Rat.mul_le_mul_of_nonneg_left t2 W0
    have Wl : 1 / 1000000000000000000000000000000000000000000000000000000000000000000000000000000000000000000000000000000 ≤ W := by
      have := er.2
      grind
    have ep := eta_pos
    have P0 : 1 / 1000000000000000000000000000000000000000000000000000000000000000000000000000000000000000000000000000000 * eta ≤ W * eta := Rat.mul_le_mul_of_nonneg_right Wl (Rat.le_of_lt ep)
    have e5 : (1 : Rat) / 100000000000000000 ≤ eta := by unfold eta; decide +kernel
    have hu : ups ≤ W * (1 / 1000 * eta) := by grind
    have L1 : W ≤ 100000000000000000000000000000000000000000000000000000000000000000000000000000000000000000000000000000 := by grind
    obtain ⟨m1, m2, m3, m4⟩ := moved_back (A := fsub (wMoved_0 u v t x y) u) (B := fsub (wMoved_1 u v t x y) v) (s := W) fu fv ct ft fx' fy (a6.mono (by grind)) (b6.mono (by grind)) c6 d6 (by grind) L1 hu rfl rfl
    have es : Bd (qv s - W) (W * (9 * eta)) := er.mono (by grind)
    have L2 : W ≤ 1000000000000000000000000000000000000000000000000000000000000000000000000000000000000000000000000000000 := by grind
    have r1 := last_test m1 fx' fs m2 es L2 hu
    have r2 := last_test m3 fy fs m4 es L2 hu
    show (bif fle (fabs (fsub (wBack_0 u v t (wMoved_0 u v t x y) (wMoved_1 u v t x y)) x)) (fmul 4397347889687374747 s) then fle (fabs (fsub (wBack_1 u v t (wMoved_0 u v t x y) (wMoved_1 u v t x y)) y)) (fmul 4397347889687374747 s) else false) = true
    rw [show fle (fabs (fsub (wBack_0 u v t (wMoved_0 u v t x y) (wMoved_1 u v t x y)) x)) (fmul 4397347889687374747 s) = true from r1, cond_true]
    exact r2
end Go.Lk
end

section
/- PlaceBack: the call answers true. -/
namespace Go.Lk
open Go.Proofs
theorem pb_all {m b u v t x y : Nat} {q i j k l : Int} (cm : Canon m) (cb : Canon b) (cu : Canon u) (cv : Canon v) (ct : Canon t) (cx : Canon x) (cy : Canon y) :
    ∃ σ1, CallR Try.prog false 11 [.float .f64 m, .float .f64 b, .agg #[.float .f64 u, .float .f64 v, .float .f64 t], .agg #[.float .f64 x, .float .f64 y], .int .i64 q, .int .i64 i, .int .i64 j, .int .i64 k, .int .i64 l] [] (.bool true) σ1 := by
  refine pb_call m b u v t x y q i j k l (fun h => ?_) (fun h6 h7 => p2_law h6 h7) (fun g1 g2 g3 g4 g5 => p3_law cu cv ct cx cy g1 g2 g3 g4 g5)
  unfold pb2_0 at h
  obtain ⟨a, h⟩ := bif_and h
  obtain ⟨b1, h⟩ := bif_and h
  exact p1_law cm cb a b1 h
end Go.Lk
end

section
/- The program's head: what is asked of it by each row. -/
namespace Go.Lk
open Go.Proofs
set_option maxRecDepth 100000
theorem toList_lit (l : List Char) : (String.ofList l).toList = l := String.toList_ofList
theorem words_cons : ∀ (w r : List Char), (w.all fun c => c != Char.ofNat 32) = true → wordsSigns (w ++ Char.ofNat 32 :: r) = w :: wordsSigns r
  | [], r, _ => rfl
  | c :: w, r, h => by
    rw [List.all_cons, Bool.and_eq_true] at h
    have hc : c = Char.ofNat 32 → False := by simpa using h.1
    rw [List.cons_append, wordsSigns.eq_3 c _ hc, words_cons w r h.2]
def hw0 : List Char := [Char.ofNat 104, Char.ofNat 97, Char.ofNat 114, Char.ofNat 110, Char.ofNat 101, Char.ofNat 115, Char.ofNat 115]
def hw1 : List Char := [Char.ofNat 99, Char.ofNat 100, Char.ofNat 100, Char.ofNat 97, Char.ofNat 51, Char.ofNat 100, Char.ofNat 55, Char.ofNat 99, Char.ofNat 99, Char.ofNat 53, Char.ofNat 57, Char.ofNat 51, Char.ofNat 50, Char.ofNat 55, Char.ofNat 48, Char.ofNat 52, Char.ofNat 48, Char.ofNat 49, Char.ofNat 101, Char.ofNat 53, Char.ofNat 99, Char.ofNat 51, Char.ofNat 97, Char.ofNat 55, Char.ofNat 101, Char.ofNat 97, Char.ofNat 97, Char.ofNat 48, Char.ofNat 100, Char.ofNat 54, Char.ofNat 56, Char.ofNat 101, Char.ofNat 55, Char.ofNat 97, Char.ofNat 51, Char.ofNat 101, Char.ofNat 53, Char.ofNat 97, Char.ofNat 49, Char.ofNat 49, Char.ofNat 48, Char.ofNat 53, Char.ofNat 55, Char.ofNat 52, Char.ofNat 99, Char.ofNat 52, Char.ofNat 53, Char.ofNat 53, Char.ofNat 56, Char.ofNat 53, Char.ofNat 48, Char.ofNat 49, Char.ofNat 52, Char.ofNat 48, Char.ofNat 100, Char.ofNat 56, Char.ofNat 99, Char.ofNat 50, Char.ofNat 100, Char.ofNat 56, Char.ofNat 50, Char.ofNat 52, Char.ofNat 102, Char.ofNat 99]
def hw2 : List Char := [Char.ofNat 99, Char.ofNat 117, Char.ofNat 116]
def hwRest : List Char := [Char.ofNat 97, Char.ofNat 116, Char.ofNat 32, Char.ofNat 108, Char.ofNat 111, Char.ofNat 111, Char.ofNat 107, Char.ofNat 111, Char.ofNat 117, Char.ofNat 116, Char.ofNat 47, Char.ofNat 108, Char.ofNat 111, Char.ofNat 111, Char.ofNat 107, Char.ofNat 111, Char.ofNat 117, Char.ofNat 116, Char.ofNat 108, Char.ofNat 97, Char.ofNat 119, Char.ofNat 48, Char.ofNat 50, Char.ofNat 46, Char.ofNat 84, Char.ofNat 117, Char.ofNat 114, Char.ofNat 110, Char.ofNat 75, Char.ofNat 110, Char.ofNat 111, Char.ofNat 119, Char.ofNat 110, Char.ofNat 32, Char.ofNat 108, Char.ofNat 111, Char.ofNat 111, Char.ofNat 107, Char.ofNat 111, Char.ofNat 117, Char.ofNat 116, Char.ofNat 47, Char.ofNat 108, Char.ofNat 111, Char.ofNat 111, Char.ofNat 107, Char.ofNat 111, Char.ofNat 117, Char.ofNat 116, Char.ofNat 108, Char.ofNat 97, Char.ofNat 119, Char.ofNat 48, Char.ofNat 50, Char.ofNat 46, Char.ofNat 84, Char.ofNat 117, Char.ofNat 114, Char.ofNat 110, Char.ofNat 87, Char.ofNat 114, Char.ofNat 97, Char.ofNat 112, Char.ofNat 115, Char.ofNat 32, Char.ofNat 108, Char.ofNat 111, Char.ofNat 111, Char.ofNat 107, Char.ofNat 111, Char.ofNat 117, Char.ofNat 116, Char.ofNat 47, Char.ofNat 108, Char.ofNat 111, Char.ofNat 111, Char.ofNat 107, Char.ofNat 111, Char.ofNat 117, Char.ofNat 116, Char.ofNat 108, Char.ofNat 97, Char.ofNat 119, Char.ofNat 48, Char.ofNat 50, Char.ofNat 46, Char.ofNat 84, Char.ofNat 117, Char.ofNat 114, Char.ofNat 110, Char.ofNat 85, Char.ofNat 110, Char.ofNat 105, Char.ofNat 116, Char.ofNat 115, Char.ofNat 32, Char.ofNat 108, Char.ofNat 111, Char.ofNat 111, Char.ofNat 107, Char.ofNat 111, Char.ofNat 117, Char.ofNat 116, Char.ofNat 47, Char.ofNat 108, Char.ofNat 111, Char.ofNat 111, Char.ofNat 107, Char.ofNat 111, Char.ofNat 117, Char.ofNat 116, Char.ofNat 108, Char.ofNat 97, Char.ofNat 119, Char.ofNat 50, Char.ofNat 51, Char.ofNat 46, Char.ofNat 80, Char.ofNat 108, Char.ofNat 97, Char.ofNat 99, Char.ofNat 101, Char.ofNat 87, Char.ofNat 105, Char.ofNat 116, Char.ofNat 104, Char.ofNat 105, Char.ofNat 110, Char.ofNat 32, Char.ofNat 108, Char.ofNat 111, Char.ofNat 111, Char.ofNat 107, Char.ofNat 111, Char.ofNat 117, Char.ofNat 116, Char.ofNat 47, Char.ofNat 108, Char.ofNat 111, Char.ofNat 111, Char.ofNat 107, Char.ofNat 111, Char.ofNat 117, Char.ofNat 116, Char.ofNat 108, Char.ofNat 97, Char.ofNat 119, Char.ofNat 50, Char.ofNat 51, Char.ofNat 46, Char.ofNat 80, Char.ofNat 108, Char.ofNat 97, Char.ofNat 99, Char.ofNat 101, Char.ofNat 67, Char.ofNat 111, Char.ofNat 114, Char.ofNat 110, Char.ofNat 101, Char.ofNat 114, Char.ofNat 115, Char.ofNat 32, Char.ofNat 108, Char.ofNat 111, Char.ofNat 111, Char.ofNat 107, Char.ofNat 111, Char.ofNat 117, Char.ofNat 116, Char.ofNat 47, Char.ofNat 108, Char.ofNat 111, Char.ofNat 111, Char.ofNat 107, Char.ofNat 111, Char.ofNat 117, Char.ofNat 116, Char.ofNat 108, Char.ofNat 97, Char.ofNat 119, Char.ofNat 50, Char.ofNat 51, Char.ofNat 46, Char.ofNat 80, Char.ofNat 108, Char.ofNat 97, Char.ofNat 99, Char.ofNat 101, Char.ofNat 83, Char.ofNat 113, Char.ofNat 117, Char.ofNat 97, Char.ofNat 114, Char.ofNat 101, Char.ofNat 115, Char.ofNat 32, Char.ofNat 108, Char.ofNat 111, Char.ofNat 111, Char.ofNat 107, Char.ofNat 111, Char.ofNat 117, Char.ofNat 116, Char.ofNat 47, Char.ofNat 108, Char.ofNat 111, Char.ofNat 111, Char.ofNat 107, Char.ofNat 111, Char.ofNat 117, Char.ofNat 116, Char.ofNat 108, Char.ofNat 97, Char.ofNat 119, Char.ofNat 50, Char.ofNat 51, Char.ofNat 46, Char.ofNat 80, Char.ofNat 108, Char.ofNat 97, Char.ofNat 99, Char.ofNat 101, Char.ofNat 75, Char.ofNat 110, Char.ofNat 111, Char.ofNat 119, Char.ofNat 110, Char.ofNat 32, Char.ofNat 108, Char.ofNat 111, Char.ofNat 111, Char.ofNat 107, Char.ofNat 111, Char.ofNat 117, Char.ofNat 116, Char.ofNat 47, Char.ofNat 108, Char.ofNat 111, Char.ofNat 111, Char.ofNat 107, Char.ofNat 111, Char.ofNat 117, Char.ofNat 116, Char.ofNat 108, Char.ofNat 97, Char.ofNat 119, Char.ofNat 50, Char.ofNat 51, Char.ofNat 46, Char.ofNat 80, Char.ofNat 108, Char.ofNat 97, Char.ofNat 99, Char.ofNat 101, Char.ofNat 84, Char.ofNat 117, Char.ofNat 114, Char.ofNat 110, Char.ofNat 115, Char.ofNat 32, Char.ofNat 108, Char.ofNat 111, Char.ofNat 111, Char.ofNat 107, Char.ofNat 111, Char.ofNat 117, Char.ofNat 116, Char.ofNat 47, Char.ofNat 108, Char.ofNat 111, Char.ofNat 111, Char.ofNat 107, Char.ofNat 111, Char.ofNat 117, Char.ofNat 116, Char.ofNat 108, Char.ofNat 97, Char.ofNat 119, Char.ofNat 50, Char.ofNat 51, Char.ofNat 46, Char.ofNat 80, Char.ofNat 108, Char.ofNat 97, Char.ofNat 99, Char.ofNat 101, Char.ofNat 66, Char.ofNat 97, Char.ofNat 99, Char.ofNat 107, Char.ofNat 32, Char.ofNat 108, Char.ofNat 111, Char.ofNat 111, Char.ofNat 107, Char.ofNat 111, Char.ofNat 117, Char.ofNat 116, Char.ofNat 47, Char.ofNat 108, Char.ofNat 111, Char.ofNat 111, Char.ofNat 107, Char.ofNat 111, Char.ofNat 117, Char.ofNat 116, Char.ofNat 108, Char.ofNat 97, Char.ofNat 119, Char.ofNat 48, Char.ofNat 52, Char.ofNat 46, Char.ofNat 80, Char.ofNat 117, Char.ofNat 108, Char.ofNat 115, Char.ofNat 101, Char.ofNat 78, Char.ofNat 97, Char.ofNat 109, Char.ofNat 101, Char.ofNat 115, Char.ofNat 32, Char.ofNat 108, Char.ofNat 111, Char.ofNat 111, Char.ofNat 107, Char.ofNat 111, Char.ofNat 117, Char.ofNat 116, Char.ofNat 47, Char.ofNat 108, Char.ofNat 111, Char.ofNat 111, Char.ofNat 107, Char.ofNat 111, Char.ofNat 117, Char.ofNat 116, Char.ofNat 108, Char.ofNat 97, Char.ofNat 119, Char.ofNat 48, Char.ofNat 52, Char.ofNat 46, Char.ofNat 80, Char.ofNat 117, Char.ofNat 108, Char.ofNat 115, Char.ofNat 101, Char.ofNat 67, Char.ofNat 104, Char.ofNat 105, Char.ofNat 114, Char.ofNat 112, Char.ofNat 115, Char.ofNat 32, Char.ofNat 108, Char.ofNat 111, Char.ofNat 111, Char.ofNat 107, Char.ofNat 111, Char.ofNat 117, Char.ofNat 116, Char.ofNat 47, Char.ofNat 108, Char.ofNat 111, Char.ofNat 111, Char.ofNat 107, Char.ofNat 111, Char.ofNat 117, Char.ofNat 116, Char.ofNat 108, Char.ofNat 97, Char.ofNat 119, Char.ofNat 48, Char.ofNat 52, Char.ofNat 46, Char.ofNat 80, Char.ofNat 117, Char.ofNat 108, Char.ofNat 115, Char.ofNat 101, Char.ofNat 83, Char.ofNat 105, Char.ofNat 103, Char.ofNat 110, Char.ofNat 115, Char.ofNat 32, Char.ofNat 108, Char.ofNat 111, Char.ofNat 111, Char.ofNat 107, Char.ofNat 111, Char.ofNat 117, Char.ofNat 116, Char.ofNat 47, Char.ofNat 108, Char.ofNat 111, Char.ofNat 111, Char.ofNat 107, Char.ofNat 111, Char.ofNat 117, Char.ofNat 116, Char.ofNat 108, Char.ofNat 97, Char.ofNat 119, Char.ofNat 48, Char.ofNat 52, Char.ofNat 46, Char.ofNat 80, Char.ofNat 117, Char.ofNat 108, Char.ofNat 115, Char.ofNat 101, Char.ofNat 83, Char.ofNat 116, Char.ofNat 101, Char.ofNat 112, Char.ofNat 115, Char.ofNat 32, Char.ofNat 108, Char.ofNat 111, Char.ofNat 111, Char.ofNat 107, Char.ofNat 111, Char.ofNat 117, Char.ofNat 116, Char.ofNat 47, Char.ofNat 108, Char.ofNat 111, Char.ofNat 111, Char.ofNat 107, Char.ofNat 111, Char.ofNat 117, Char.ofNat 116, Char.ofNat 108, Char.ofNat 97, Char.ofNat 119, Char.ofNat 48, Char.ofNat 52, Char.ofNat 46, Char.ofNat 80, Char.ofNat 117, Char.ofNat 108, Char.ofNat 115, Char.ofNat 101, Char.ofNat 67, Char.ofNat 111, Char.ofNat 100, Char.ofNat 101, Char.ofNat 115, Char.ofNat 32, Char.ofNat 108, Char.ofNat 111, Char.ofNat 111, Char.ofNat 107, Char.ofNat 111, Char.ofNat 117, Char.ofNat 116, Char.ofNat 47, Char.ofNat 108, Char.ofNat 111, Char.ofNat 111, Char.ofNat 107, Char.ofNat 111, Char.ofNat 117, Char.ofNat 116, Char.ofNat 108, Char.ofNat 97, Char.ofNat 119, Char.ofNat 48, Char.ofNat 52, Char.ofNat 46, Char.ofNat 80, Char.ofNat 117, Char.ofNat 108, Char.ofNat 115, Char.ofNat 101, Char.ofNat 80, Char.ofNat 101, Char.ofNat 97, Char.ofNat 107, Char.ofNat 32, Char.ofNat 108, Char.ofNat 111, Char.ofNat 111, Char.ofNat 107, Char.ofNat 111, Char.ofNat 117, Char.ofNat 116, Char.ofNat 47, Char.ofNat 108, Char.ofNat 111, Char.ofNat 111, Char.ofNat 107, Char.ofNat 111, Char.ofNat 117, Char.ofNat 116, Char.ofNat 108, Char.ofNat 97, Char.ofNat 119, Char.ofNat 48, Char.ofNat 52, Char.ofNat 46, Char.ofNat 80, Char.ofNat 117, Char.ofNat 108, Char.ofNat 115, Char.ofNat 101, Char.ofNat 69, Char.ofNat 118, Char.ofNat 101, Char.ofNat 110, Char.ofNat 32, Char.ofNat 108, Char.ofNat 111, Char.ofNat 111, Char.ofNat 107, Char.ofNat 111, Char.ofNat 117, Char.ofNat 116, Char.ofNat 47, Char.ofNat 108, Char.ofNat 111, Char.ofNat 111, Char.ofNat 107, Char.ofNat 111, Char.ofNat 117, Char.ofNat 116, Char.ofNat 108, Char.ofNat 97, Char.ofNat 119, Char.ofNat 48, Char.ofNat 53, Char.ofNat 46, Char.ofNat 68, Char.ofNat 102, Char.ofNat 116, Char.ofNat 75, Char.ofNat 110, Char.ofNat 111, Char.ofNat 119, Char.ofNat 110, Char.ofNat 32, Char.ofNat 108, Char.ofNat 111, Char.ofNat 111, Char.ofNat 107, Char.ofNat 111, Char.ofNat 117, Char.ofNat 116, Char.ofNat 47, Char.ofNat 108, Char.ofNat 111, Char.ofNat 111, Char.ofNat 107, Char.ofNat 111, Char.ofNat 117, Char.ofNat 116, Char.ofNat 108, Char.ofNat 97, Char.ofNat 119, Char.ofNat 48, Char.ofNat 54, Char.ofNat 46, Char.ofNat 77, Char.ofNat 97, Char.ofNat 116, Char.ofNat 99, Char.ofNat 104, Char.ofNat 80, Char.ofNat 101, Char.ofNat 97, Char.ofNat 107, Char.ofNat 32, Char.ofNat 108, Char.ofNat 111, Char.ofNat 111, Char.ofNat 107, Char.ofNat 111, Char.ofNat 117, Char.ofNat 116, Char.ofNat 47, Char.ofNat 108, Char.ofNat 111, Char.ofNat 111, Char.ofNat 107, Char.ofNat 111, Char.ofNat 117, Char.ofNat 116, Char.ofNat 108, Char.ofNat 97, Char.ofNat 119, Char.ofNat 48, Char.ofNat 54, Char.ofNat 46, Char.ofNat 77, Char.ofNat 97, Char.ofNat 116, Char.ofNat 99, Char.ofNat 104, Char.ofNat 75, Char.ofNat 110, Char.ofNat 111, Char.ofNat 119, Char.ofNat 110, Char.ofNat 32, Char.ofNat 108, Char.ofNat 111, Char.ofNat 111, Char.ofNat 107, Char.ofNat 111, Char.ofNat 117, Char.ofNat 116, Char.ofNat 47, Char.ofNat 108, Char.ofNat 111, Char.ofNat 111, Char.ofNat 107, Char.ofNat 111, Char.ofNat 117, Char.ofNat 116, Char.ofNat 108, Char.ofNat 97, Char.ofNat 119, Char.ofNat 50, Char.ofNat 49, Char.ofNat 46, Char.ofNat 83, Char.ofNat 111, Char.ofNat 108, Char.ofNat 118, Char.ofNat 101, Char.ofNat 75, Char.ofNat 110, Char.ofNat 111, Char.ofNat 119, Char.ofNat 110, Char.ofNat 32, Char.ofNat 108, Char.ofNat 111, Char.ofNat 111, Char.ofNat 107, Char.ofNat 111, Char.ofNat 117, Char.ofNat 116, Char.ofNat 47, Char.ofNat 108, Char.ofNat 111, Char.ofNat 111, Char.ofNat 107, Char.ofNat 111, Char.ofNat 117, Char.ofNat 116, Char.ofNat 108, Char.ofNat 97, Char.ofNat 119, Char.ofNat 49, Char.ofNat 50, Char.ofNat 46, Char.ofNat 83, Char.ofNat 99, Char.ofNat 101, Char.ofNat 110, Char.ofNat 101, Char.ofNat 75, Char.ofNat 110, Char.ofNat 111, Char.ofNat 119, Char.ofNat 110, Char.ofNat 32, Char.ofNat 108, Char.ofNat 111, Char.ofNat 111, Char.ofNat 107, Char.ofNat 111, Char.ofNat 117, Char.ofNat 116, Char.ofNat 47, Char.ofNat 108, Char.ofNat 111, Char.ofNat 111, Char.ofNat 107, Char.ofNat 111, Char.ofNat 117, Char.ofNat 116, Char.ofNat 108, Char.ofNat 97, Char.ofNat 119, Char.ofNat 49, Char.ofNat 50, Char.ofNat 46, Char.ofNat 83, Char.ofNat 99, Char.ofNat 101, Char.ofNat 110, Char.ofNat 101, Char.ofNat 80, Char.ofNat 101, Char.ofNat 97, Char.ofNat 107, Char.ofNat 32, Char.ofNat 108, Char.ofNat 111, Char.ofNat 111, Char.ofNat 107, Char.ofNat 111, Char.ofNat 117, Char.ofNat 116, Char.ofNat 47, Char.ofNat 108, Char.ofNat 111, Char.ofNat 111, Char.ofNat 107, Char.ofNat 111, Char.ofNat 117, Char.ofNat 116, Char.ofNat 108, Char.ofNat 97, Char.ofNat 119, Char.ofNat 50, Char.ofNat 50, Char.ofNat 46, Char.ofNat 66, Char.ofNat 101, Char.ofNat 97, Char.ofNat 109, Char.ofNat 72, Char.ofNat 101, Char.ofNat 97, Char.ofNat 114, Char.ofNat 115, Char.ofNat 32, Char.ofNat 108, Char.ofNat 111, Char.ofNat 111, Char.ofNat 107, Char.ofNat 111, Char.ofNat 117, Char.ofNat 116, Char.ofNat 47, Char.ofNat 108, Char.ofNat 111, Char.ofNat 111, Char.ofNat 107, Char.ofNat 111, Char.ofNat 117, Char.ofNat 116, Char.ofNat 108, Char.ofNat 97, Char.ofNat 119, Char.ofNat 50, Char.ofNat 50, Char.ofNat 46, Char.ofNat 66, Char.ofNat 101, Char.ofNat 97, Char.ofNat 109, Char.ofNat 65, Char.ofNat 100, Char.ofNat 100, Char.ofNat 115, Char.ofNat 32, Char.ofNat 108, Char.ofNat 111, Char.ofNat 111, Char.ofNat 107, Char.ofNat 111, Char.ofNat 117, Char.ofNat 116, Char.ofNat 47, Char.ofNat 108, Char.ofNat 111, Char.ofNat 111, Char.ofNat 107, Char.ofNat 111, Char.ofNat 117, Char.ofNat 116, Char.ofNat 108, Char.ofNat 97, Char.ofNat 119, Char.ofNat 50, Char.ofNat 50, Char.ofNat 46, Char.ofNat 66, Char.ofNat 101, Char.ofNat 97, Char.ofNat 109, Char.ofNat 66, Char.ofNat 97, Char.ofNat 99, Char.ofNat 107, Char.ofNat 32, Char.ofNat 108, Char.ofNat 111, Char.ofNat 111, Char.ofNat 107, Char.ofNat 111, Char.ofNat 117, Char.ofNat 116, Char.ofNat 47, Char.ofNat 108, Char.ofNat 111, Char.ofNat 111, Char.ofNat 107, Char.ofNat 111, Char.ofNat 117, Char.ofNat 116, Char.ofNat 108, Char.ofNat 97, Char.ofNat 119, Char.ofNat 50, Char.ofNat 50, Char.ofNat 46, Char.ofNat 66, Char.ofNat 101, Char.ofNat 97, Char.ofNat 109, Char.ofNat 83, Char.ofNat 116, Char.ofNat 101, Char.ofNat 101, Char.ofNat 114, Char.ofNat 115, Char.ofNat 32, Char.ofNat 108, Char.ofNat 111, Char.ofNat 111, Char.ofNat 107, Char.ofNat 111, Char.ofNat 117, Char.ofNat 116, Char.ofNat 47, Char.ofNat 108, Char.ofNat 111, Char.ofNat 111, Char.ofNat 107, Char.ofNat 111, Char.ofNat 117, Char.ofNat 116, Char.ofNat 108, Char.ofNat 97, Char.ofNat 119, Char.ofNat 50, Char.ofNat 50, Char.ofNat 46, Char.ofNat 66, Char.ofNat 101, Char.ofNat 97, Char.ofNat 109, Char.ofNat 78, Char.ofNat 117, Char.ofNat 108, Char.ofNat 108, Char.ofNat 115, Char.ofNat 32, Char.ofNat 108, Char.ofNat 111, Char.ofNat 111, Char.ofNat 107, Char.ofNat 111, Char.ofNat 117, Char.ofNat 116, Char.ofNat 47, Char.ofNat 108, Char.ofNat 111, Char.ofNat 111, Char.ofNat 107, Char.ofNat 111, Char.ofNat 117, Char.ofNat 116, Char.ofNat 108, Char.ofNat 97, Char.ofNat 119, Char.ofNat 50, Char.ofNat 50, Char.ofNat 46, Char.ofNat 66, Char.ofNat 101, Char.ofNat 97, Char.ofNat 109, Char.ofNat 68, Char.ofNat 101, Char.ofNat 97, Char.ofNat 102, Char.ofNat 32, Char.ofNat 108, Char.ofNat 111, Char.ofNat 111, Char.ofNat 107, Char.ofNat 111, Char.ofNat 117, Char.ofNat 116, Char.ofNat 47, Char.ofNat 108, Char.ofNat 111, Char.ofNat 111, Char.ofNat 107, Char.ofNat 111, Char.ofNat 117, Char.ofNat 116, Char.ofNat 108, Char.ofNat 97, Char.ofNat 119, Char.ofNat 50, Char.ofNat 50, Char.ofNat 46, Char.ofNat 66, Char.ofNat 101, Char.ofNat 97, Char.ofNat 109, Char.ofNat 69, Char.ofNat 118, Char.ofNat 101, Char.ofNat 110]
theorem head_eq : Try.prog.initOrder.toList = hw0 ++ Char.ofNat 32 :: (hw1 ++ Char.ofNat 32 :: (hw2 ++ Char.ofNat 32 :: hwRest)) :=
  (show (String.ofList (hw0 ++ Char.ofNat 32 :: (hw1 ++ Char.ofNat 32 :: (hw2 ++ Char.ofNat 32 :: hwRest)))).toList = _ from String.toList_ofList)
theorem head_words : wordsSigns Try.prog.initOrder.toList = hw0 :: hw1 :: hw2 :: wordsSigns hwRest := by
  rw [head_eq, words_cons _ _ (by kernel_rfl), words_cons _ _ (by kernel_rfl), words_cons _ _ (by kernel_rfl)]
theorem harness_eq : "harness".toList = hw0 := toList_lit hw0
theorem head_main : behindMainWord (wordsSigns Try.prog.initOrder.toList) = hw2 :: wordsSigns hwRest := by
  rw [head_words]
  rw [behindMainWord, harness_eq, if_pos (by kernel_rfl)]
theorem strip_ne {o : String} {os : List String} {w : List Char} {ws : List (List Char)} {l : List Char} (h : o.toList = l) (h2 : (w == l) = false) : stripLifts (o :: os) (w :: ws) = stripLifts os (w :: ws) := by
  rw [stripLifts, h, h2]; rfl
theorem strip_cut : stripLifts liftWords (hw2 :: wordsSigns hwRest) = ([], hw2 :: wordsSigns hwRest) := by
  unfold liftWords
  rw [strip_ne (l := [Char.ofNat 102, Char.ofNat 105, Char.ofNat 110, Char.ofNat 97, Char.ofNat 108, Char.ofNat 115]) (toList_lit _) (by kernel_rfl)]
  rw [strip_ne (l := [Char.ofNat 114, Char.ofNat 101, Char.ofNat 102, Char.ofNat 108, Char.ofNat 101, Char.ofNat 99, Char.ofNat 116, Char.ofNat 114, Char.ofNat 111, Char.ofNat 119, Char.ofNat 115]) (toList_lit _) (by kernel_rfl)]
  rw [strip_ne (l := [Char.ofNat 108, Char.ofNat 101, Char.ofNat 97, Char.ofNat 110, Char.ofNat 114, Char.ofNat 111, Char.ofNat 119, Char.ofNat 115]) (toList_lit _) (by kernel_rfl)]
  rw [strip_ne (l := [Char.ofNat 111, Char.ofNat 110, Char.ofNat 101, Char.ofNat 98, Char.ofNat 117, Char.ofNat 105, Char.ofNat 108, Char.ofNat 100]) (toList_lit _) (by kernel_rfl)]
  rw [strip_ne (l := [Char.ofNat 112, Char.ofNat 117, Char.ofNat 98, Char.ofNat 108, Char.ofNat 105, Char.ofNat 99, Char.ofNat 115, Char.ofNat 117, Char.ofNat 109, Char.ofNat 115]) (toList_lit _) (by kernel_rfl)]
  rw [strip_ne (l := [Char.ofNat 101, Char.ofNat 113, Char.ofNat 103, Char.ofNat 117, Char.ofNat 97, Char.ofNat 114, Char.ofNat 100]) (toList_lit _) (by kernel_rfl)]
  rw [strip_ne (l := [Char.ofNat 111, Char.ofNat 119, Char.ofNat 110, Char.ofNat 117, Char.ofNat 110, Char.ofNat 115, Char.ofNat 97, Char.ofNat 102, Char.ofNat 101]) (toList_lit _) (by kernel_rfl)]
  rw [strip_ne (l := [Char.ofNat 108, Char.ofNat 105, Char.ofNat 98, Char.ofNat 98, Char.ofNat 101, Char.ofNat 115, Char.ofNat 105, Char.ofNat 100, Char.ofNat 101]) (toList_lit _) (by kernel_rfl)]
  rw [strip_ne (l := [Char.ofNat 111, Char.ofNat 119, Char.ofNat 110, Char.ofNat 98, Char.ofNat 101, Char.ofNat 115, Char.ofNat 105, Char.ofNat 100, Char.ofNat 101]) (toList_lit _) (by kernel_rfl)]
  rw [strip_ne (l := [Char.ofNat 114, Char.ofNat 101, Char.ofNat 102, Char.ofNat 108, Char.ofNat 98, Char.ofNat 101, Char.ofNat 115, Char.ofNat 105, Char.ofNat 100, Char.ofNat 101]) (toList_lit _) (by kernel_rfl)]
  rw [strip_ne (l := [Char.ofNat 97, Char.ofNat 108, Char.ofNat 105, Char.ofNat 97, Char.ofNat 115, Char.ofNat 101, Char.ofNat 115]) (toList_lit _) (by kernel_rfl)]
  rw [strip_ne (l := [Char.ofNat 97, Char.ofNat 102, Char.ofNat 116, Char.ofNat 101, Char.ofNat 114, Char.ofNat 105, Char.ofNat 110, Char.ofNat 105, Char.ofNat 116]) (toList_lit _) (by kernel_rfl)]
  rw [strip_ne (l := [Char.ofNat 99, Char.ofNat 114, Char.ofNat 99, Char.ofNat 112, Char.ofNat 108, Char.ofNat 97, Char.ofNat 105, Char.ofNat 110]) (toList_lit _) (by kernel_rfl)]
  rw [strip_ne (l := [Char.ofNat 114, Char.ofNat 111, Char.ofNat 97, Char.ofNat 100, Char.ofNat 117, Char.ofNat 110, Char.ofNat 115, Char.ofNat 97, Char.ofNat 102, Char.ofNat 101]) (toList_lit _) (by kernel_rfl)]
  rw [strip_ne (l := [Char.ofNat 102, Char.ofNat 109, Char.ofNat 116, Char.ofNat 104, Char.ofNat 97, Char.ofNat 110, Char.ofNat 100, Char.ofNat 111, Char.ofNat 110]) (toList_lit _) (by kernel_rfl)]
  rfl
theorem cut_eq : "cut".toList = hw2 := toList_lit hw2
def w_gc : List Char := [Char.ofNat 103, Char.ofNat 99]
theorem gc_eq : "gc".toList = w_gc := toList_lit w_gc
def w_spec : List Char := [Char.ofNat 115, Char.ofNat 112, Char.ofNat 101, Char.ofNat 99]
theorem spec_eq : "spec".toList = w_spec := toList_lit w_spec
def w_carried : List Char := [Char.ofNat 99, Char.ofNat 97, Char.ofNat 114, Char.ofNat 114, Char.ofNat 105, Char.ofNat 101, Char.ofNat 100]
theorem carried_eq : "carried".toList = w_carried := toList_lit w_carried
theorem headLifts_ok : Try.prog.headLifts = [] := by
  unfold Program.headLifts
  rw [head_main, strip_cut, cut_eq]
  rfl
theorem laysLater_ok : Try.prog.laysLater = false := by kernel_rfl
theorem bearsReflect_ok : Try.prog.bearsReflect = false := by kernel_rfl
theorem doors_none : (Try.prog.funcs.toList.filter fun fn => fn.body.isNone && opensWith (nameBytes "var's door: ") (nameBytes fn.name)) = [] := by kernel_rfl
theorem doorRows_ok : Try.prog.doorRows = [] := by
  unfold Program.doorRows
  rw [doors_none]
  rfl
theorem doorFits_ok : Try.prog.doorFits [] = true := by
  unfold Program.doorFits
  rw [doorRows_ok]
  rfl
theorem hw2_gc : (hw2 == w_gc) = false := by kernel_rfl
theorem hw2_spec : (hw2 == w_spec) = false := by kernel_rfl
theorem mayEnter_of {P : Program} {c : List Char} {rest : List (List Char)} (h : behindMainWord (wordsSigns P.initOrder.toList) = c :: rest) (h2 : stripLifts liftWords (c :: rest) = ([], c :: rest))
    (h3 : P.laysLater = false) (h4 : P.bearsReflect = false) (h5 : P.doorFits [] = true) (h6 : "cut".toList = c) : P.mayEnter = true := by
  unfold Program.mayEnter
  rw [h]
  simp only [h2, h3, h4, h5, h6]
  simp
theorem mayEnter_ok : Try.prog.mayEnter = true := mayEnter_of head_main strip_cut laysLater_ok bearsReflect_ok doorFits_ok cut_eq
theorem make_of {P : Program} {c g s : List Char} {rest : List (List Char)} (h : behindMainWord (wordsSigns P.initOrder.toList) = c :: rest) 
    (h6 : "cut".toList = c) (h7 : "gc".toList = g) (h8 : "spec".toList = s) (h9 : (c == g) = false) (h10 : (c == s) = false) : P.make = some .cut := by
  unfold Program.make
  rw [h]
  simp only [h6, h7, h8, h9, h10]
  simp
theorem make_ok : Try.prog.make = some .cut := make_of head_main cut_eq gc_eq spec_eq hw2_gc hw2_spec
theorem liftsFinal_ok : Try.prog.liftsFinal = false := by
  unfold Program.liftsFinal
  rw [head_main, headLifts_ok]
  simp only [gc_eq, carried_eq, cut_eq]
  kernel_rfl
theorem and2 {a b : Bool} (h : a = true) (k : b = true) : (a && b) = true := by rw [h, k]; rfl
theorem joinedFacts_of {P : Program} {f : FuncId} {fn : Func} {s : ChangeSpec} {c : OpenClaim}
    (h0 : (c.wf (OpenSpec.ofChange s)) = true)
    (h1 : (laidOutB P) = true)
    (h2 : (mapsRowed P) = true)
    (h3 : (fn.params.all (P.readableRec ·)) = true)
    (h4 : (namedTie P c.named s.vars) = true)
    (h5 : ((c.stops == [])) = true)
    (h6 : ((P.stops == [])) = true)
    (h7 : ((c.knobs == [])) = true)
    (h8 : ((P.stopKnobs == [])) = true)
    (h9 : ((c.inPlace == P.inPlace f)) = true)
    (h10 : ((c.unfollowed == P.unfollowed f)) = true)
    (h11 : ((c.recurses == P.recurses f)) = true)
    (h12 : ((c.named == P.varsNamed f)) = true)
    (h13 : ((c.maps == (fn.params.toList ++ s.plain.varTypes P).any (P.mapsRec ·))) = true)
    (h14 : ((c.ifaces == (fn.params.toList ++ s.plain.varTypes P).any (P.ifacesRec ·))) = true)
    (h15 : ((c.mapsOut == P.mapsAmong fn.resultTypes.toList)) = true)
    (h16 : ((c.loops == (fn.params.toList ++ s.plain.varTypes P).any (P.loopsFrom ·))) = true)
    (h17 : ((c.wideKeys == (fn.params.toList ++ s.plain.varTypes P ++ fn.resultTypes.toList).any (P.wideKeysFrom ·))) = true)
    (h18 : (s.vars.all (P.varReadable ·)) = true)
    (h19 : (fn.resultTypes.all (fun t => P.readableRec t && decide (t < P.types.size))) = true)
    (h20 : ((c.ifacesOut == fn.resultTypes.toList.any (P.ifacesRec ·))) = true)
    (h21 : ((c.loopsOut == fn.resultTypes.toList.any (P.loopsFrom ·))) = true)
    (h22 : ((c.plainKeys == P.plainKeys)) = true)
    (h23 : (c.shortTexts.isNone) = true)
    (h24 : (P.stopsHeard) = true)
    (h25 : (P.mayEnter) = true)
    (h26 : ((c.lifted == P.liftsFinal)) = true)
    (h27 : ((P.make == some c.make)) = true)
    (h28 : ((c.kinds == (if c.domain.isEmpty then [] else fn.params.toList.map fun t => match P.underlying t with | some (.int k) => some k | _ => none))) = true)
    (h29 : ((c.pinned == c.pinnedBy)) = true)
    (h30 : ((c.veiled == (fn.params.toList ++ s.plain.varTypes P ++ fn.resultTypes.toList).any (P.veiledRec ·))) = true)
    (h31 : (c.veiledFits P fn.params.toList (fn.params.toList ++ s.plain.varTypes P ++ fn.resultTypes.toList)) = true) : joinedFacts P f fn s c = true := by
  exact and2 (and2 (and2 (and2 (and2 (and2 (and2 (and2 (and2 (and2 (and2 (and2 (and2 (and2 (and2 (and2 (and2 (and2 (and2 (and2 (and2 (and2 (and2 (and2 (and2 (and2 (and2 (and2 (and2 (and2 (and2 (h0) h1) h2) h3) h4) h5) h6) h7) h8) h9) h10) h11) h12) h13) h14) h15) h16) h17) h18) h19) h20) h21) h22) h23) h24) h25) h26) h27) h28) h29) h30) h31
theorem laidOut_ok : laidOutB Try.prog = true := by kernel_rfl
theorem mapsRowed_ok : mapsRowed Try.prog = true := by kernel_rfl
theorem stopsHeard_ok : Try.prog.stopsHeard = true := by kernel_rfl
end Go.Lk
end
