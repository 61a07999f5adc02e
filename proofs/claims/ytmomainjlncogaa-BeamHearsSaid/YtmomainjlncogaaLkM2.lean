/- The rows of sines, cosines and tangents. -/
import Derived.Test.YtmomainjlncogaaLkLD
import Derived.Test.YtmomainjlncogaaLkM1
namespace Go.Lk
open Go.Proofs
set_option maxRecDepth 100000
set_option linter.unusedVariables false

theorem iPure_ok {C : Cfg} (hC : C.Ok) {f : Nat} {fn : Func} (n : Nat) (hf : C.P.funcs[f]? = some fn) (hok : fnOk C fn = true) : IsPure C.P C.ex f (iPure C n fn) := by
  intro args v σ h
  simp only [fnOk, Bool.and_eq_true, Bool.not_eq_true'] at hok
  unfold iPure at h
  cases hfl : args.all plain with
  | false => rw [hfl] at h; cases h
  | true =>
    rw [hfl] at h
    simp only [cond_true] at h
    split at h
    · rename_i v' σ1 hd
      cases hp : plain v' with
      | false => rw [hp] at h; cases h
      | true => rw [hp] at h; cases h; exact CallR.frame hfl (CallR.of_DFn_nil hC hf hok.1 hok.2 hd hp) hp
    · cases h
theorem IsPure.of_sub {P : Program} {ex : Bool} {f : Nat} {s s' : PureFn} (h : IsPure P ex f s') (hs : ∀ args v, s args = some v → s' args = some v) : IsPure P ex f s :=
  fun args v σ hv => h args v σ (hs args v hv)

noncomputable def L0 : Lib := ⟨Try.prog, false, t0 false, [(207, Try.f207), (182, Try.f182), (184, Try.f184)], []⟩
theorem L0_fp : ∀ e, e ∈ L0.pures → Try.prog.funcs[e.1]? = some e.2 := fs_cons Try.func207 (fs_cons Try.func182 (fs_cons Try.func184 fs_nil))
theorem L0_fh : ∀ e, e ∈ L0.heaps → Try.prog.funcs[e.1]? = some e.2.2 := gs_nil
theorem L0_p1 (gp : Nat → PureFn) (g : Nat → HeapFn) : (L0.pures.all fun e => fnOk (L0.mk' gp g) e.2) = true := by kernel_rfl
theorem L0_h1 (gp : Nat → PureFn) (g : Nat → HeapFn) : (L0.heaps.all fun e => fnOk (L0.mk' gp g) e.2.2 && (!e.2.1 || fnRo (L0.mk' gp g) e.2.2)) = true := by kernel_rfl
theorem L0_ok : L0.Ok := ⟨t0_ok false, mixed, L0_fp, L0_fh, L0_p1, L0_h1⟩

def cosA : Value := .agg #[.float .f64 4607182418800017408, .float .f64 13826050856027422720, .float .f64 4586165620538955093, .float .f64 13787419979223755799, .float .f64 4537941361671905306, .float .f64 13732177094651715420, .float .f64 4477122120089393304, .float .f64 13666517717442657437, .float .f64 4407590220077447199, .float .f64 0, .float .f64 0, .float .f64 0, .float .f64 0, .float .f64 0, .float .f64 0, .float .f64 0, .float .f64 0, .float .f64 0, .float .f64 0, .float .f64 0, .float .f64 0, .float .f64 0, .float .f64 0, .float .f64 0]
def sinA : Value := .agg #[.float .f64 4607182418800017408, .float .f64 13818544856648471893, .float .f64 4575957461383581969, .float .f64 13774824197408792602, .float .f64 4523617214285662004, .float .f64 13716528800881525988, .float .f64 4460272573143870729, .float .f64 13648976655441704991, .float .f64 4389130328383466826, .float .f64 0, .float .f64 0, .float .f64 0, .float .f64 0, .float .f64 0, .float .f64 0, .float .f64 0, .float .f64 0, .float .f64 0, .float .f64 0, .float .f64 0, .float .f64 0, .float .f64 0, .float .f64 0, .float .f64 0]
def tanA : Value := .agg #[.float .f64 4607182418800017408, .float .f64 13823048456275842389, .float .f64 4596373779694328218, .float .f64 13817687028148020370, .float .f64 4592670820000712476, .float .f64 13814587147885025094, .float .f64 4590207312512236308, .float .f64 13812840297120469265, .float .f64 4588638185040256542, .float .f64 13811117867789299496, .float .f64 4587023449039406616, .float .f64 13809798735632998756, .float .f64 4585925428558828667, .float .f64 13808870457448935272, .float .f64 4585130310279789462, .float .f64 13808181734925275268, .float .f64 4584391475231203080, .float .f64 13807264411867534365, .float .f64 4583447231574686416, .float .f64 13806419780728628250, .float .f64 4582687230582855930, .float .f64 13805732290266727924, .float .f64 4582062340878461975, .float .f64 13805161819457917015]
def sPowers : PureFn
  | [.int .i64 (.ofNat 0)] => some cosA
  | [.int .i64 (.ofNat 1)] => some sinA
  | _ => none
def sTangents : PureFn
  | [] => some tanA
  | _ => none
theorem pow0 : iPure (L0.cfg 100 1) 100 Try.f182 [.int .i64 0] = some cosA := by kernel_rfl
theorem pow1 : iPure (L0.cfg 100 1) 100 Try.f182 [.int .i64 1] = some sinA := by kernel_rfl
theorem tan0 : iPure (L0.cfg 100 1) 100 Try.f184 [] = some tanA := by kernel_rfl
theorem f182_ok : fnOk (L0.cfg 100 1) Try.f182 = true := by kernel_rfl
theorem f184_ok : fnOk (L0.cfg 100 1) Try.f184 = true := by kernel_rfl
theorem sPowers_ok : IsPure Try.prog false 182 sPowers :=
  (iPure_ok (C := L0.cfg 100 1) (L0_ok.cfg 100 1) 100 Try.func182 f182_ok).of_sub fun args v h => by
    unfold sPowers at h
    split at h
    · cases h; exact pow0
    · cases h; exact pow1
    · cases h
theorem sTangents_ok : IsPure Try.prog false 184 sTangents :=
  (iPure_ok (C := L0.cfg 100 1) (L0_ok.cfg 100 1) 100 Try.func184 f184_ok).of_sub fun args v h => by
    unfold sTangents at h
    split at h
    · cases h; exact tan0
    · cases h
noncomputable def t1 : Tab := ((t0 false).addP 182 sPowers).addP 184 sTangents
theorem t1_ok : t1.Ok Try.prog false := Tab.Ok.addP (Tab.Ok.addP (t0_ok false) sPowers_ok) sTangents_ok
end Go.Lk
