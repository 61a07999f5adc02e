import Derived.Test.YtmomainjlncogaaLkLJ
import Derived.Test.YtmomainjlncogaaLkJD
section
/- Calls that are shown by themselves, many at once; rounds under another configuration. -/
namespace Go.Lk
open Go.Proofs
theorem Sim.cfg {C C' : Cfg} (hP : C.P = C'.P) (hx : C.ex = C'.ex) {n0 : Nat} {c : Code} {fr fr' : List Value} {σ σ' : AHeap} {e : Exit} (h : Sim C n0 c fr σ e fr' σ') : Sim C' n0 c fr σ e fr' σ' := by
  unfold Sim at h ⊢
  rw [← hP, ← hx]
  exact h
noncomputable def manyF (f n : Nat) (A : Nat → List Value) (H : AHeap) (V : Value) (H' : AHeap) : HeapFn := fun args σ =>
  open Classical in if (∃ k, k < n ∧ args = A k) ∧ σ = H ∧ (∀ k, k < n → CallR Try.prog false f (A k) H V H') ∧ H.length ≤ H'.length then some (V, H') else none
theorem manyF_ok (f n : Nat) (A : Nat → List Value) (H : AHeap) (V : Value) (H' : AHeap) : IsHeap Try.prog false f false (manyF f n A H V H') := by
  have key : ∀ args σ v σ', manyF f n A H V H' args σ = some (v, σ') → CallR Try.prog false f args σ v σ' ∧ σ.length ≤ σ'.length := by
    intro args σ v σ' h
    unfold manyF at h
    split at h
    · rename_i hc
      obtain ⟨⟨k, hk, rfl⟩, rfl, h1, h2⟩ := hc
      cases h; exact ⟨h1 k hk, h2⟩
    · cases h
  exact ⟨fun _ _ _ _ h => (key _ _ _ _ h).1, (by intro h; cases h), fun _ _ _ _ h => (key _ _ _ _ h).2⟩
theorem manyF_at {f n : Nat} {A : Nat → List Value} {H : AHeap} {V : Value} {H' : AHeap} (h : ∀ k, k < n → CallR Try.prog false f (A k) H V H') (hl : H.length ≤ H'.length) {k : Nat} (hk : k < n) : manyF f n A H V H' (A k) H = some (V, H') := by
  unfold manyF
  rw [if_pos ⟨⟨k, hk, rfl⟩, rfl, h, hl⟩]
end Go.Lk
end

section
/- Abs, by itself. -/
namespace Go.Lk
open Go.Proofs
set_option maxRecDepth 100000
set_option maxHeartbeats 0
set_option linter.unusedVariables false
set_option linter.unusedSimpArgs false
noncomputable def LBa : Lib := ⟨Try.prog, false, t2, [(128, Try.f128), (159, Try.f159), (160, Try.f160), (33, Try.f33), (55, Try.f55), (127, Try.f127)], []⟩
theorem LBa_fp : ∀ e, e ∈ LBa.pures → Try.prog.funcs[e.1]? = some e.2 := fs_cons Try.func128 (fs_cons Try.func159 (fs_cons Try.func160 (fs_cons Try.func33 (fs_cons Try.func55 (fs_cons Try.func127 (fs_nil))))))
theorem LBa_fh : ∀ e, e ∈ LBa.heaps → Try.prog.funcs[e.1]? = some e.2.2 := gs_nil
theorem LBa_p1 (gp : Nat → PureFn) (g : Nat → HeapFn) : (LBa.pures.all fun e => fnOk (LBa.mk' gp g) e.2) = true := by kernel_rfl
theorem LBa_h1 (gp : Nat → PureFn) (g : Nat → HeapFn) : (LBa.heaps.all fun e => fnOk (LBa.mk' gp g) e.2.2 && (!e.2.1 || fnRo (LBa.mk' gp g) e.2.2)) = true := by kernel_rfl
theorem LBa_ok : LBa.Ok := ⟨t2_ok, mixed, LBa_fp, LBa_fh, LBa_p1, LBa_h1⟩
noncomputable def dLBa : Cfg := LBa.cfg 100 6
theorem dLBa_ok : dLBa.Ok := LBa_ok.cfg 100 6

theorem bKind_fok : fnOk (dLBa) Try.f159 = true := by kernel_rfl
theorem bKind_p0 (a : Nat) (b : Nat) (σ : AHeap) (h0 : (fgt (fabs a) 9218868437227405311) = true) : CallR Try.prog false 159 [Value.complex .f64 a b] σ (Value.int IntKind.i8 (Int.ofNat 1)) σ := CallR.of_DO_pure (C := dLBa) dLBa_ok Try.func159 bKind_fok (n := 100) (orc := [(10, Item.br true), (11, Item.br true)]) (ps := [(bP (fgt (fabs a) 9218868437227405311) true), (bP (fgt (fabs a) 9218868437227405311) true)]) (σ1 := []) (by kernel_rfl) ⟨bP_of (fun x => x) h0, ⟨bP_of (fun x => x) h0, trivial⟩⟩ rfl rfl
theorem bKind_p1 (a : Nat) (b : Nat) (σ : AHeap) (h0 : (fgt (fabs a) 9218868437227405311) = false) (h1 : (fgt (fabs b) 9218868437227405311) = true) : CallR Try.prog false 159 [Value.complex .f64 a b] σ (Value.int IntKind.i8 (Int.ofNat 1)) σ := CallR.of_DO_pure (C := dLBa) dLBa_ok Try.func159 bKind_fok (n := 100) (orc := [(10, Item.br false), (19, Item.br true)]) (ps := [(bP (fgt (fabs a) 9218868437227405311) false), (bP (fgt (fabs b) 9218868437227405311) true)]) (σ1 := []) (by kernel_rfl) ⟨bP_of (fun x => x) h0, ⟨bP_of (fun x => x) h1, trivial⟩⟩ rfl rfl
theorem bKind_p2 (a : Nat) (b : Nat) (σ : AHeap) (h0 : (fgt (fabs a) 9218868437227405311) = false) (h1 : (fgt (fabs b) 9218868437227405311) = false) (h2 : (feq a a) = true) (h3 : (feq b b) = true) : CallR Try.prog false 159 [Value.complex .f64 a b] σ (Value.int IntKind.i8 (Int.ofNat 0)) σ := CallR.of_DO_pure (C := dLBa) dLBa_ok Try.func159 bKind_fok (n := 100) (orc := [(10, Item.br false), (19, Item.br false), (32, Item.br false), (45, Item.br false)]) (ps := [(bP (fgt (fabs a) 9218868437227405311) false), (bP (fgt (fabs b) 9218868437227405311) false), (bP (!feq a a) false), (bP (!feq b b) false)]) (σ1 := []) (by kernel_rfl) ⟨bP_of (fun x => x) h0, ⟨bP_of (fun x => x) h1, ⟨bP_of (fun x => !x) h2, ⟨bP_of (fun x => !x) h3, trivial⟩⟩⟩⟩ rfl rfl
theorem bKind_p3 (a : Nat) (b : Nat) (σ : AHeap) (h0 : (fgt (fabs a) 9218868437227405311) = false) (h1 : (fgt (fabs b) 9218868437227405311) = false) (h2 : (feq a a) = true) (h3 : (feq b b) = false) : CallR Try.prog false 159 [Value.complex .f64 a b] σ (Value.int IntKind.i8 (Int.ofNat 2)) σ := CallR.of_DO_pure (C := dLBa) dLBa_ok Try.func159 bKind_fok (n := 100) (orc := [(10, Item.br false), (19, Item.br false), (32, Item.br false), (45, Item.br true)]) (ps := [(bP (fgt (fabs a) 9218868437227405311) false), (bP (fgt (fabs b) 9218868437227405311) false), (bP (!feq a a) false), (bP (!feq b b) true)]) (σ1 := []) (by kernel_rfl) ⟨bP_of (fun x => x) h0, ⟨bP_of (fun x => x) h1, ⟨bP_of (fun x => !x) h2, ⟨bP_of (fun x => !x) h3, trivial⟩⟩⟩⟩ rfl rfl
theorem bKind_p4 (a : Nat) (b : Nat) (σ : AHeap) (h0 : (fgt (fabs a) 9218868437227405311) = false) (h1 : (fgt (fabs b) 9218868437227405311) = false) (h2 : (feq a a) = false) : CallR Try.prog false 159 [Value.complex .f64 a b] σ (Value.int IntKind.i8 (Int.ofNat 2)) σ := CallR.of_DO_pure (C := dLBa) dLBa_ok Try.func159 bKind_fok (n := 100) (orc := [(10, Item.br false), (19, Item.br false), (32, Item.br true), (33, Item.br true)]) (ps := [(bP (fgt (fabs a) 9218868437227405311) false), (bP (fgt (fabs b) 9218868437227405311) false), (bP (!feq a a) true), (bP (!feq a a) true)]) (σ1 := []) (by kernel_rfl) ⟨bP_of (fun x => x) h0, ⟨bP_of (fun x => x) h1, ⟨bP_of (fun x => !x) h2, ⟨bP_of (fun x => !x) h2, trivial⟩⟩⟩⟩ rfl rfl
def bKind_t (a : Nat) (b : Nat) : Value := (bif fgt (fabs a) 9218868437227405311 then (Value.int IntKind.i8 (Int.ofNat 1)) else (bif fgt (fabs b) 9218868437227405311 then (Value.int IntKind.i8 (Int.ofNat 1)) else (bif feq a a then (bif feq b b then (Value.int IntKind.i8 (Int.ofNat 0)) else (Value.int IntKind.i8 (Int.ofNat 2))) else (Value.int IntKind.i8 (Int.ofNat 2)))))
theorem bKind_c (a : Nat) (b : Nat) (σ : AHeap) : CallR Try.prog false 159 [Value.complex .f64 a
    b] σ (bKind_t a b) σ := by
  unfold bKind_t
  exact (CallR.bif (fun h0 => (bKind_p0 a b σ h0)) (fun h0 => (CallR.bif (fun h1 => (bKind_p1 a b σ h0 h1)) (fun h1 => (CallR.bif (fun h2 => (CallR.bif (fun h3 => (bKind_p2 a b σ h0 h1 h2 h3)) (fun h3 => (bKind_p3 a b σ h0 h1 h2 h3)))) (fun h2 => (bKind_p4 a b σ h0 h1 h2)))))))
def bKind_0 (a : Nat) (b : Nat) : Int := (bif fgt (fabs a) 9218868437227405311 then Int.ofNat 1 else (bif fgt (fabs b) 9218868437227405311 then Int.ofNat 1 else (bif feq a a then (bif feq b b then Int.ofNat 0 else Int.ofNat 2) else Int.ofNat 2)))
theorem bKind_v (a : Nat) (b : Nat) : bKind_t a b = Go.Value.int Go.IntKind.i8 (bKind_0 a b) := by
  unfold bKind_t bKind_0
  cases (fgt (fabs a) 9218868437227405311) with
  | true =>
    kernel_rfl
  | false =>
    cases (fgt (fabs b) 9218868437227405311) with
    | true =>
      kernel_rfl
    | false =>
      cases (feq a a) with
      | true =>
        cases (feq b b) with
        | true =>
          kernel_rfl
        | false =>
          kernel_rfl
      | false =>
        kernel_rfl
theorem bKind_ok (a : Nat) (b : Nat) (σ : AHeap) : CallR Try.prog false 159 [Value.complex .f64 a
    b] σ (Go.Value.int Go.IntKind.i8 (bKind_0 a b)) σ := by
  have h := bKind_c a b σ
  rw [bKind_v] at h
  exact h
def sBKind : PureFn
  | [.complex .f64 a b] => some (.int .i8 (bKind_0 a b))
  | _ => none
theorem sBKind_ok : IsPure Try.prog false 159 sBKind := by
  intro args v σ h
  unfold sBKind at h
  split at h
  · cases h; exact bKind_ok _ _ σ
  · cases h
noncomputable def tba : Tab := (t2.addP 159 sBKind)
theorem tba_ok : tba.Ok Try.prog false := (Tab.Ok.addP t2_ok sBKind_ok)
noncomputable def LBb : Lib := ⟨Try.prog, false, tba, [(128, Try.f128), (160, Try.f160), (33, Try.f33), (55, Try.f55), (127, Try.f127)], []⟩
theorem LBb_fp : ∀ e, e ∈ LBb.pures → Try.prog.funcs[e.1]? = some e.2 := fs_cons Try.func128 (fs_cons Try.func160 (fs_cons Try.func33 (fs_cons Try.func55 (fs_cons Try.func127 (fs_nil)))))
theorem LBb_fh : ∀ e, e ∈ LBb.heaps → Try.prog.funcs[e.1]? = some e.2.2 := gs_nil
theorem LBb_p1 (gp : Nat → PureFn) (g : Nat → HeapFn) : (LBb.pures.all fun e => fnOk (LBb.mk' gp g) e.2) = true := by kernel_rfl
theorem LBb_h1 (gp : Nat → PureFn) (g : Nat → HeapFn) : (LBb.heaps.all fun e => fnOk (LBb.mk' gp g) e.2.2 && (!e.2.1 || fnRo (LBb.mk' gp g) e.2.2)) = true := by kernel_rfl
theorem LBb_ok : LBb.Ok := ⟨tba_ok, mixed, LBb_fp, LBb_fh, LBb_p1, LBb_h1⟩
noncomputable def dLBb : Cfg := LBb.cfg 100 6
theorem dLBb_ok : dLBb.Ok := LBb_ok.cfg 100 6

theorem bAbs_fok : fnOk (dLBb) Try.f89 = true := by kernel_rfl
theorem bAbs_p0 (a : Nat) (b : Nat) (σ : AHeap) (h0 : (bKind_0 a b == Int.ofNat 1) = true) : CallR Try.prog false 89 [Value.complex .f64 a b] σ (Value.float .f64 9218868437227405312) σ := CallR.of_DO_pure (C := dLBb) dLBb_ok Try.func89 bAbs_fok (n := 100) (orc := [(26, Item.br true)]) (ps := [(bP (bKind_0 a b == Int.ofNat 1) true)]) (σ1 := []) (by kernel_rfl) ⟨bP_of (fun x => x) h0, trivial⟩ rfl rfl
theorem bAbs_p1 (a : Nat) (b : Nat) (σ : AHeap) (h0 : (bKind_0 a b == Int.ofNat 1) = false) (h1 : (bKind_0 a b == Int.ofNat 2) = true) : CallR Try.prog false 89 [Value.complex .f64 a b] σ (Value.float .f64 9221120237041090561) σ := CallR.of_DO_pure (C := dLBb) dLBb_ok Try.func89 bAbs_fok (n := 100) (orc := [(26, Item.br false), (31, Item.br true)]) (ps := [(bP (bKind_0 a b == Int.ofNat 1) false), (bP (bKind_0 a b == Int.ofNat 2) true)]) (σ1 := []) (by kernel_rfl) ⟨bP_of (fun x => x) h0, ⟨bP_of (fun x => x) h1, trivial⟩⟩ rfl rfl
theorem bAbs_p2 (a : Nat) (b : Nat) (σ : AHeap) (h0 : (bKind_0 a b == Int.ofNat 1) = false) (h1 : (bKind_0 a b == Int.ofNat 2) = false) (h2 : (feq (fmax (fabs a) (fabs b)) 0) = true) : CallR Try.prog false 89 [Value.complex .f64 a b] σ (Value.float .f64 0) σ := CallR.of_DO_pure (C := dLBb) dLBb_ok Try.func89 bAbs_fok (n := 100) (orc := [(26, Item.br false), (31, Item.br false), (52, Item.br true)]) (ps := [(bP (bKind_0 a b == Int.ofNat 1) false), (bP (bKind_0 a b == Int.ofNat 2) false), (bP (feq (fmax (fabs a) (fabs b)) 0) true)]) (σ1 := []) (by kernel_rfl) ⟨bP_of (fun x => x) h0, ⟨bP_of (fun x => x) h1, ⟨bP_of (fun x => x) h2, trivial⟩⟩⟩ rfl rfl
theorem bAbs_p3 (a : Nat) (b : Nat) (σ : AHeap) (h0 : (bKind_0 a b == Int.ofNat 1) = false) (h1 : (bKind_0 a b == Int.ofNat 2) = false) (h2 : (feq (fmax (fabs a) (fabs b)) 0) = false) : CallR Try.prog false 89 [Value.complex .f64 a b] σ (Value.float .f64 (fmul (fmax (fabs a) (fabs b)) (fsqrt (fadd 4607182418800017408 (fmul (fdiv (fmin (fabs a) (fabs b)) (fmax (fabs a) (fabs b))) (fdiv (fmin (fabs a) (fabs b)) (fmax (fabs a) (fabs b)))))))) σ := CallR.of_DO_pure (C := dLBb) dLBb_ok Try.func89 bAbs_fok (n := 100) (orc := [(26, Item.br false), (31, Item.br false), (52, Item.br false)]) (ps := [(bP (bKind_0 a b == Int.ofNat 1) false), (bP (bKind_0 a b == Int.ofNat 2) false), (bP (feq (fmax (fabs a) (fabs b)) 0) false)]) (σ1 := []) (by kernel_rfl) ⟨bP_of (fun x => x) h0, ⟨bP_of (fun x => x) h1, ⟨bP_of (fun x => x) h2, trivial⟩⟩⟩ rfl rfl
def bAbs_t (a : Nat) (b : Nat) : Value := (bif bKind_0 a b == Int.ofNat 1 then (Value.float .f64 9218868437227405312) else (bif bKind_0 a b == Int.ofNat 2 then (Value.float .f64 9221120237041090561) else (bif feq (fmax (fabs a) (fabs b)) 0 then (Value.float .f64 0) else (Value.float .f64 (fmul (fmax (fabs a) (fabs b)) (fsqrt (fadd 4607182418800017408 (fmul (fdiv (fmin (fabs a) (fabs b)) (fmax (fabs a) (fabs b))) (fdiv (fmin (fabs a) (fabs b)) (fmax (fabs a) (fabs b)))))))))))
theorem bAbs_c (a : Nat) (b : Nat) (σ : AHeap) : CallR Try.prog false 89 [Value.complex .f64 a b] σ (bAbs_t a b) σ := by
  unfold bAbs_t
  exact (CallR.bif (fun h0 => (bAbs_p0 a b σ h0)) (fun h0 => (CallR.bif (fun h1 => (bAbs_p1 a b σ h0 h1)) (fun h1 => (CallR.bif (fun h2 => (bAbs_p2 a b σ h0 h1 h2)) (fun h2 => (bAbs_p3 a b σ h0 h1 h2)))))))
def bAbs_0 (a : Nat) (b : Nat) : Nat := (bif bKind_0 a b == Int.ofNat 1 then 9218868437227405312 else (bif bKind_0 a b == Int.ofNat 2 then 9221120237041090561 else (bif feq (fmax (fabs a) (fabs b)) 0 then 0 else fmul (fmax (fabs a) (fabs b)) (fsqrt (fadd 4607182418800017408 (fmul (fdiv (fmin (fabs a) (fabs b)) (fmax (fabs a) (fabs b))) (fdiv (fmin (fabs a) (fabs b)) (fmax (fabs a) (fabs b)))))))))
theorem bAbs_v (a : Nat) (b : Nat) : bAbs_t a b = Go.Value.float Go.FloatKind.f64 (bAbs_0 a b) := by
  unfold bAbs_t bAbs_0
  cases (bKind_0 a b == Int.ofNat 1) with
  | true =>
    kernel_rfl
  | false =>
    cases (bKind_0 a b == Int.ofNat 2) with
    | true =>
      kernel_rfl
    | false =>
      cases (feq (fmax (fabs a) (fabs b)) 0) with
      | true =>
        kernel_rfl
      | false =>
        kernel_rfl
theorem bAbs_ok (a : Nat) (b : Nat) (σ : AHeap) : CallR Try.prog false 89 [Value.complex .f64 a
    b] σ (Go.Value.float Go.FloatKind.f64 (bAbs_0 a b)) σ := by
  have h := bAbs_c a b σ
  rw [bAbs_v] at h
  exact h
end Go.Lk
end
