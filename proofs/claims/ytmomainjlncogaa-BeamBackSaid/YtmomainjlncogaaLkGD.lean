/- Angles, magnitudes; the document's. -/
import Derived.Test.YtmomainjlncogaaLkGC
import Derived.Test.YtmomainjlncogaaLkJN
namespace Go.Lk
open Go.Proofs
set_option maxRecDepth 100000
set_option maxHeartbeats 0
set_option linter.unusedVariables false
set_option linter.unusedSimpArgs false
noncomputable def L9 : Lib := ⟨Try.prog, false, t8, [(181, Try.f181), (160, Try.f160), (69, Try.f69), (55, Try.f55), (33, Try.f33), (128, Try.f128), (207, Try.f207), (43, Try.f43), (122, Try.f122), (133, Try.f133), (134, Try.f134), (135, Try.f135), (136, Try.f136), (137, Try.f137), (142, Try.f142), (109, Try.f109), (185, Try.f185), (186, Try.f186), (187, Try.f187)], [(183, true, Try.f183), (130, false, Try.f130), (129, true, Try.f129)]⟩
theorem L9_fp : ∀ e, e ∈ L9.pures → Try.prog.funcs[e.1]? = some e.2 := fs_cons Try.func181 (fs_cons Try.func160 (fs_cons Try.func69 (fs_cons Try.func55 (fs_cons Try.func33 (fs_cons Try.func128 (fs_cons Try.func207 (fs_cons Try.func43 (fs_cons Try.func122 (fs_cons Try.func133 (fs_cons Try.func134 (fs_cons Try.func135 (fs_cons Try.func136 (fs_cons Try.func137 (fs_cons Try.func142 (fs_cons Try.func109 (fs_cons Try.func185 (fs_cons Try.func186 (fs_cons Try.func187 (fs_nil)))))))))))))))))))
theorem L9_fh : ∀ e, e ∈ L9.heaps → Try.prog.funcs[e.1]? = some e.2.2 := gs_cons Try.func183 (gs_cons Try.func130 (gs_cons Try.func129 (gs_nil)))
theorem L9_p1 (gp : Nat → PureFn) (g : Nat → HeapFn) : (L9.pures.all fun e => fnOk (L9.mk' gp g) e.2) = true := by kernel_rfl
theorem L9_h1 (gp : Nat → PureFn) (g : Nat → HeapFn) : (L9.heaps.all fun e => fnOk (L9.mk' gp g) e.2.2 && (!e.2.1 || fnRo (L9.mk' gp g) e.2.2)) = true := by kernel_rfl
theorem L9_ok : L9.Ok := ⟨t8_ok, mixed, L9_fp, L9_fh, L9_p1, L9_h1⟩
noncomputable def dL9 : Cfg := L9.cfg 100 6
theorem dL9_ok : dL9.Ok := L9_ok.cfg 100 6

theorem wPart_fok : fnOk (dL9) Try.f126 = true := by kernel_rfl
theorem wPart_p0 (q : Nat) (σ : AHeap) (h0 : (fgt q 4601133428098527026) = true) : CallR Try.prog false 126 [Value.float .f64 q] σ (Value.float .f64 (fsub 4593671619917905920 (fdiv (fmul (fadd (fmul (fadd (fmul (fadd (fmul (fadd (fmul (fadd (fmul (fadd (fmul (fadd (fmul (fadd (fmul (fadd (fmul (fadd (fmul (fadd (fmul (fadd (fmul (fadd (fmul (fadd (fmul (fadd (fmul (fadd (fmul (fadd (fmul (fadd (fmul (fadd (fmul (fadd (fmul (fadd (fmul (fadd (fmul (fadd (fmul 13805161819457917015 (fmul (fdiv (fsub 4607182418800017408 q) (fadd 4607182418800017408 q)) (fdiv (fsub 4607182418800017408 q) (fadd 4607182418800017408 q)))) 4582062340878461975) (fmul (fdiv (fsub 4607182418800017408 q) (fadd 4607182418800017408 q)) (fdiv (fsub 4607182418800017408 q) (fadd 4607182418800017408 q)))) 13805732290266727924) (fmul (fdiv (fsub 4607182418800017408 q) (fadd 4607182418800017408 q)) (fdiv (fsub 4607182418800017408 q) (fadd 4607182418800017408 q)))) 4582687230582855930) (fmul (fdiv (fsub 4607182418800017408 q) (fadd 4607182418800017408 q)) (fdiv (fsub 4607182418800017408 q) (fadd 4607182418800017408 q)))) 13806419780728628250) (fmul (fdiv (fsub 4607182418800017408 q) (fadd 4607182418800017408 q)) (fdiv (fsub 4607182418800017408 q) (fadd 4607182418800017408 q)))) 4583447231574686416) (fmul (fdiv (fsub 4607182418800017408 q) (fadd 4607182418800017408 q)) (fdiv (fsub 4607182418800017408 q) (fadd 4607182418800017408 q)))) 13807264411867534365) (fmul (fdiv (fsub 4607182418800017408 q) (fadd 4607182418800017408 q)) (fdiv (fsub 4607182418800017408 q) (fadd 4607182418800017408 q)))) 4584391475231203080) (fmul (fdiv (fsub 4607182418800017408 q) (fadd 4607182418800017408 q)) (fdiv (fsub 4607182418800017408 q) (fadd 4607182418800017408 q)))) 13808181734925275268) (fmul (fdiv (fsub 4607182418800017408 q) (fadd 4607182418800017408 q)) (fdiv (fsub 4607182418800017408 q) (fadd 4607182418800017408 q)))) 4585130310279789462) (fmul (fdiv (fsub 4607182418800017408 q) (fadd 4607182418800017408 q)) (fdiv (fsub 4607182418800017408 q) (fadd 4607182418800017408 q)))) 13808870457448935272) (fmul (fdiv (fsub 4607182418800017408 q) (fadd 4607182418800017408 q)) (fdiv (fsub 4607182418800017408 q) (fadd 4607182418800017408 q)))) 4585925428558828667) (fmul (fdiv (fsub 4607182418800017408 q) (fadd 4607182418800017408 q)) (fdiv (fsub 4607182418800017408 q) (fadd 4607182418800017408 q)))) 13809798735632998756) (fmul (fdiv (fsub 4607182418800017408 q) (fadd 4607182418800017408 q)) (fdiv (fsub 4607182418800017408 q) (fadd 4607182418800017408 q)))) 4587023449039406616) (fmul (fdiv (fsub 4607182418800017408 q) (fadd 4607182418800017408 q)) (fdiv (fsub 4607182418800017408 q) (fadd 4607182418800017408 q)))) 13811117867789299496) (fmul (fdiv (fsub 4607182418800017408 q) (fadd 4607182418800017408 q)) (fdiv (fsub 4607182418800017408 q) (fadd 4607182418800017408 q)))) 4588638185040256542) (fmul (fdiv (fsub 4607182418800017408 q) (fadd 4607182418800017408 q)) (fdiv (fsub 4607182418800017408 q) (fadd 4607182418800017408 q)))) 13812840297120469265) (fmul (fdiv (fsub 4607182418800017408 q) (fadd 4607182418800017408 q)) (fdiv (fsub 4607182418800017408 q) (fadd 4607182418800017408 q)))) 4590207312512236308) (fmul (fdiv (fsub 4607182418800017408 q) (fadd 4607182418800017408 q)) (fdiv (fsub 4607182418800017408 q) (fadd 4607182418800017408 q)))) 13814587147885025094) (fmul (fdiv (fsub 4607182418800017408 q) (fadd 4607182418800017408 q)) (fdiv (fsub 4607182418800017408 q) (fadd 4607182418800017408 q)))) 4592670820000712476) (fmul (fdiv (fsub 4607182418800017408 q) (fadd 4607182418800017408 q)) (fdiv (fsub 4607182418800017408 q) (fadd 4607182418800017408 q)))) 13817687028148020370) (fmul (fdiv (fsub 4607182418800017408 q) (fadd 4607182418800017408 q)) (fdiv (fsub 4607182418800017408 q) (fadd 4607182418800017408 q)))) 4596373779694328218) (fmul (fdiv (fsub 4607182418800017408 q) (fadd 4607182418800017408 q)) (fdiv (fsub 4607182418800017408 q) (fadd 4607182418800017408 q)))) 13823048456275842389) (fmul (fdiv (fsub 4607182418800017408 q) (fadd 4607182418800017408 q)) (fdiv (fsub 4607182418800017408 q) (fadd 4607182418800017408 q)))) 4607182418800017408) (fdiv (fsub 4607182418800017408 q) (fadd 4607182418800017408 q))) 4618760256179416344))) σ := CallR.of_DO_pure (C := dL9) dL9_ok Try.func126 wPart_fok (n := 100) (orc := [(10, Item.br true)]) (ps := [(bP (fgt q 4601133428098527026) true)]) (σ1 := [AObj.row [Value.float .f64 4607182418800017408, Value.float .f64 13823048456275842389, Value.float .f64 4596373779694328218, Value.float .f64 13817687028148020370, Value.float .f64 4592670820000712476, Value.float .f64 13814587147885025094, Value.float .f64 4590207312512236308, Value.float .f64 13812840297120469265, Value.float .f64 4588638185040256542, Value.float .f64 13811117867789299496, Value.float .f64 4587023449039406616, Value.float .f64 13809798735632998756, Value.float .f64 4585925428558828667, Value.float .f64 13808870457448935272, Value.float .f64 4585130310279789462, Value.float .f64 13808181734925275268, Value.float .f64 4584391475231203080, Value.float .f64 13807264411867534365, Value.float .f64 4583447231574686416, Value.float .f64 13806419780728628250, Value.float .f64 4582687230582855930, Value.float .f64 13805732290266727924, Value.float .f64 4582062340878461975, Value.float .f64 13805161819457917015] true none]) (by kernel_rfl) ⟨bP_of (fun x => x) h0, trivial⟩ rfl rfl
theorem wPart_p1 (q : Nat) (σ : AHeap) (h0 : (fgt q 4601133428098527026) = false) : CallR Try.prog false 126 [Value.float .f64 q] σ (Value.float .f64 (fdiv (fmul (fadd (fmul (fadd (fmul (fadd (fmul (fadd (fmul (fadd (fmul (fadd (fmul (fadd (fmul (fadd (fmul (fadd (fmul (fadd (fmul (fadd (fmul (fadd (fmul (fadd (fmul (fadd (fmul (fadd (fmul (fadd (fmul (fadd (fmul (fadd (fmul (fadd (fmul (fadd (fmul (fadd (fmul (fadd (fmul (fadd (fmul 13805161819457917015 (fmul q q)) 4582062340878461975) (fmul q q)) 13805732290266727924) (fmul q q)) 4582687230582855930) (fmul q q)) 13806419780728628250) (fmul q q)) 4583447231574686416) (fmul q q)) 13807264411867534365) (fmul q q)) 4584391475231203080) (fmul q q)) 13808181734925275268) (fmul q q)) 4585130310279789462) (fmul q q)) 13808870457448935272) (fmul q q)) 4585925428558828667) (fmul q q)) 13809798735632998756) (fmul q q)) 4587023449039406616) (fmul q q)) 13811117867789299496) (fmul q q)) 4588638185040256542) (fmul q q)) 13812840297120469265) (fmul q q)) 4590207312512236308) (fmul q q)) 13814587147885025094) (fmul q q)) 4592670820000712476) (fmul q q)) 13817687028148020370) (fmul q q)) 4596373779694328218) (fmul q q)) 13823048456275842389) (fmul q q)) 4607182418800017408) q) 4618760256179416344)) σ := CallR.of_DO_pure (C := dL9) dL9_ok Try.func126 wPart_fok (n := 100) (orc := [(10, Item.br false)]) (ps := [(bP (fgt q 4601133428098527026) false)]) (σ1 := [AObj.row [Value.float .f64 4607182418800017408, Value.float .f64 13823048456275842389, Value.float .f64 4596373779694328218, Value.float .f64 13817687028148020370, Value.float .f64 4592670820000712476, Value.float .f64 13814587147885025094, Value.float .f64 4590207312512236308, Value.float .f64 13812840297120469265, Value.float .f64 4588638185040256542, Value.float .f64 13811117867789299496, Value.float .f64 4587023449039406616, Value.float .f64 13809798735632998756, Value.float .f64 4585925428558828667, Value.float .f64 13808870457448935272, Value.float .f64 4585130310279789462, Value.float .f64 13808181734925275268, Value.float .f64 4584391475231203080, Value.float .f64 13807264411867534365, Value.float .f64 4583447231574686416, Value.float .f64 13806419780728628250, Value.float .f64 4582687230582855930, Value.float .f64 13805732290266727924, Value.float .f64 4582062340878461975, Value.float .f64 13805161819457917015] true none]) (by kernel_rfl) ⟨bP_of (fun x => x) h0, trivial⟩ rfl rfl
def wPart_t (q : Nat) : Value := (bif fgt q 4601133428098527026 then (Value.float .f64 (fsub 4593671619917905920 (fdiv (fmul (fadd (fmul (fadd (fmul (fadd (fmul (fadd (fmul (fadd (fmul (fadd (fmul (fadd (fmul (fadd (fmul (fadd (fmul (fadd (fmul (fadd (fmul (fadd (fmul (fadd (fmul (fadd (fmul (fadd (fmul (fadd (fmul (fadd (fmul (fadd (fmul (fadd (fmul (fadd (fmul (fadd (fmul (fadd (fmul (fadd (fmul 13805161819457917015 (fmul (fdiv (fsub 4607182418800017408 q) (fadd 4607182418800017408 q)) (fdiv (fsub 4607182418800017408 q) (fadd 4607182418800017408 q)))) 4582062340878461975) (fmul (fdiv (fsub 4607182418800017408 q) (fadd 4607182418800017408 q)) (fdiv (fsub 4607182418800017408 q) (fadd 4607182418800017408 q)))) 13805732290266727924) (fmul (fdiv (fsub 4607182418800017408 q) (fadd 4607182418800017408 q)) (fdiv (fsub 4607182418800017408 q) (fadd 4607182418800017408 q)))) 4582687230582855930) (fmul (fdiv (fsub 4607182418800017408 q) (fadd 4607182418800017408 q)) (fdiv (fsub 4607182418800017408 q) (fadd 4607182418800017408 q)))) 13806419780728628250) (fmul (fdiv (fsub 4607182418800017408 q) (fadd 4607182418800017408 q)) (fdiv (fsub 4607182418800017408 q) (fadd 4607182418800017408 q)))) 4583447231574686416) (fmul (fdiv (fsub 4607182418800017408 q) (fadd 4607182418800017408 q)) (fdiv (fsub 4607182418800017408 q) (fadd 4607182418800017408 q)))) 13807264411867534365) (fmul (fdiv (fsub 4607182418800017408 q) (fadd 4607182418800017408 q)) (fdiv (fsub 4607182418800017408 q) (fadd 4607182418800017408 q)))) 4584391475231203080) (fmul (fdiv (fsub 4607182418800017408 q) (fadd 4607182418800017408 q)) (fdiv (fsub 4607182418800017408 q) (fadd 4607182418800017408 q)))) 13808181734925275268) (fmul (fdiv (fsub 4607182418800017408 q) (fadd 4607182418800017408 q)) (fdiv (fsub 4607182418800017408 q) (fadd 4607182418800017408 q)))) 4585130310279789462) (fmul (fdiv (fsub 4607182418800017408 q) (fadd 4607182418800017408 q)) (fdiv (fsub 4607182418800017408 q) (fadd 4607182418800017408 q)))) 13808870457448935272) (fmul (fdiv (fsub 4607182418800017408 q) (fadd 4607182418800017408 q)) (fdiv (fsub 4607182418800017408 q) (fadd 4607182418800017408 q)))) 4585925428558828667) (fmul (fdiv (fsub 4607182418800017408 q) (fadd 4607182418800017408 q)) (fdiv (fsub 4607182418800017408 q) (fadd 4607182418800017408 q)))) 13809798735632998756) (fmul (fdiv (fsub 4607182418800017408 q) (fadd 4607182418800017408 q)) (fdiv (fsub 4607182418800017408 q) (fadd 4607182418800017408 q)))) 4587023449039406616) (fmul (fdiv (fsub 4607182418800017408 q) (fadd 4607182418800017408 q)) (fdiv (fsub 4607182418800017408 q) (fadd 4607182418800017408 q)))) 13811117867789299496) (fmul (fdiv (fsub 4607182418800017408 q) (fadd 4607182418800017408 q)) (fdiv (fsub 4607182418800017408 q) (fadd 4607182418800017408 q)))) 4588638185040256542) (fmul (fdiv (fsub 4607182418800017408 q) (fadd 4607182418800017408 q)) (fdiv (fsub 4607182418800017408 q) (fadd 4607182418800017408 q)))) 13812840297120469265) (fmul (fdiv (fsub 4607182418800017408 q) (fadd 4607182418800017408 q)) (fdiv (fsub 4607182418800017408 q) (fadd 4607182418800017408 q)))) 4590207312512236308) (fmul (fdiv (fsub 4607182418800017408 q) (fadd 4607182418800017408 q)) (fdiv (fsub 4607182418800017408 q) (fadd 4607182418800017408 q)))) 13814587147885025094) (fmul (fdiv (fsub 4607182418800017408 q) (fadd 4607182418800017408 q)) (fdiv (fsub 4607182418800017408 q) (fadd 4607182418800017408 q)))) 4592670820000712476) (fmul (fdiv (fsub 4607182418800017408 q) (fadd 4607182418800017408 q)) (fdiv (fsub 4607182418800017408 q) (fadd 4607182418800017408 q)))) 13817687028148020370) (fmul (fdiv (fsub 4607182418800017408 q) (fadd 4607182418800017408 q)) (fdiv (fsub 4607182418800017408 q) (fadd 4607182418800017408 q)))) 4596373779694328218) (fmul (fdiv (fsub 4607182418800017408 q) (fadd 4607182418800017408 q)) (fdiv (fsub 4607182418800017408 q) (fadd 4607182418800017408 q)))) 13823048456275842389) (fmul (fdiv (fsub 4607182418800017408 q) (fadd 4607182418800017408 q)) (fdiv (fsub 4607182418800017408 q) (fadd 4607182418800017408 q)))) 4607182418800017408) (fdiv (fsub 4607182418800017408 q) (fadd 4607182418800017408 q))) 4618760256179416344))) else (Value.float .f64 (fdiv (fmul (fadd (fmul (fadd (fmul (fadd (fmul (fadd (fmul (fadd (fmul (fadd (fmul (fadd (fmul (fadd (fmul (fadd (fmul (fadd (fmul (fadd (fmul (fadd (fmul (fadd (fmul (fadd (fmul (fadd (fmul (fadd (fmul (fadd (fmul (fadd (fmul (fadd (fmul (fadd (fmul (fadd (fmul (fadd (fmul (fadd (fmul 13805161819457917015 (fmul q q)) 4582062340878461975) (fmul q q)) 13805732290266727924) (fmul q q)) 4582687230582855930) (fmul q q)) 13806419780728628250) (fmul q q)) 4583447231574686416) (fmul q q)) 13807264411867534365) (fmul q q)) 4584391475231203080) (fmul q q)) 13808181734925275268) (fmul q q)) 4585130310279789462) (fmul q q)) 13808870457448935272) (fmul q q)) 4585925428558828667) (fmul q q)) 13809798735632998756) (fmul q q)) 4587023449039406616) (fmul q q)) 13811117867789299496) (fmul q q)) 4588638185040256542) (fmul q q)) 13812840297120469265) (fmul q q)) 4590207312512236308) (fmul q q)) 13814587147885025094) (fmul q q)) 4592670820000712476) (fmul q q)) 13817687028148020370) (fmul q q)) 4596373779694328218) (fmul q q)) 13823048456275842389) (fmul q q)) 4607182418800017408) q) 4618760256179416344)))
theorem wPart_c (q : Nat) (σ : AHeap) : CallR Try.prog false 126 [Value.float .f64 q] σ (wPart_t q) σ := by
  unfold wPart_t
  exact (CallR.bif (fun h0 => (wPart_p0 q σ h0)) (fun h0 => (wPart_p1 q σ h0)))
def wPart_0 (q : Nat) : Nat := (bif fgt q 4601133428098527026 then fsub 4593671619917905920 (fdiv (fmul (fadd (fmul (fadd (fmul (fadd (fmul (fadd (fmul (fadd (fmul (fadd (fmul (fadd (fmul (fadd (fmul (fadd (fmul (fadd (fmul (fadd (fmul (fadd (fmul (fadd (fmul (fadd (fmul (fadd (fmul (fadd (fmul (fadd (fmul (fadd (fmul (fadd (fmul (fadd (fmul (fadd (fmul (fadd (fmul (fadd (fmul 13805161819457917015 (fmul (fdiv (fsub 4607182418800017408 q) (fadd 4607182418800017408 q)) (fdiv (fsub 4607182418800017408 q) (fadd 4607182418800017408 q)))) 4582062340878461975) (fmul (fdiv (fsub 4607182418800017408 q) (fadd 4607182418800017408 q)) (fdiv (fsub 4607182418800017408 q) (fadd 4607182418800017408 q)))) 13805732290266727924) (fmul (fdiv (fsub 4607182418800017408 q) (fadd 4607182418800017408 q)) (fdiv (fsub 4607182418800017408 q) (fadd 4607182418800017408 q)))) 4582687230582855930) (fmul (fdiv (fsub 4607182418800017408 q) (fadd 4607182418800017408 q)) (fdiv (fsub 4607182418800017408 q) (fadd 4607182418800017408 q)))) 13806419780728628250) (fmul (fdiv (fsub 4607182418800017408 q) (fadd 4607182418800017408 q)) (fdiv (fsub 4607182418800017408 q) (fadd 4607182418800017408 q)))) 4583447231574686416) (fmul (fdiv (fsub 4607182418800017408 q) (fadd 4607182418800017408 q)) (fdiv (fsub 4607182418800017408 q) (fadd 4607182418800017408 q)))) 13807264411867534365) (fmul (fdiv (fsub 4607182418800017408 q) (fadd 4607182418800017408 q)) (fdiv (fsub 4607182418800017408 q) (fadd 4607182418800017408 q)))) 4584391475231203080) (fmul (fdiv (fsub 4607182418800017408 q) (fadd 4607182418800017408 q)) (fdiv (fsub 4607182418800017408 q) (fadd 4607182418800017408 q)))) 13808181734925275268) (fmul (fdiv (fsub 4607182418800017408 q) (fadd 4607182418800017408 q)) (fdiv (fsub 4607182418800017408 q) (fadd 4607182418800017408 q)))) 4585130310279789462) (fmul (fdiv (fsub 4607182418800017408 q) (fadd 4607182418800017408 q)) (fdiv (fsub 4607182418800017408 q) (fadd 4607182418800017408 q)))) 13808870457448935272) (fmul (fdiv (fsub 4607182418800017408 q) (fadd 4607182418800017408 q)) (fdiv (fsub 4607182418800017408 q) (fadd 4607182418800017408 q)))) 4585925428558828667) (fmul (fdiv (fsub 4607182418800017408 q) (fadd 4607182418800017408 q)) (fdiv (fsub 4607182418800017408 q) (fadd 4607182418800017408 q)))) 13809798735632998756) (fmul (fdiv (fsub 4607182418800017408 q) (fadd 4607182418800017408 q)) (fdiv (fsub 4607182418800017408 q) (fadd 4607182418800017408 q)))) 4587023449039406616) (fmul (fdiv (fsub 4607182418800017408 q) (fadd 4607182418800017408 q)) (fdiv (fsub 4607182418800017408 q) (fadd 4607182418800017408 q)))) 13811117867789299496) (fmul (fdiv (fsub 4607182418800017408 q) (fadd 4607182418800017408 q)) (fdiv (fsub 4607182418800017408 q) (fadd 4607182418800017408 q)))) 4588638185040256542) (fmul (fdiv (fsub 4607182418800017408 q) (fadd 4607182418800017408 q)) (fdiv (fsub 4607182418800017408 q) (fadd 4607182418800017408 q)))) 13812840297120469265) (fmul (fdiv (fsub 4607182418800017408 q) (fadd 4607182418800017408 q)) (fdiv (fsub 4607182418800017408 q) (fadd 4607182418800017408 q)))) 4590207312512236308) (fmul (fdiv (fsub 4607182418800017408 q) (fadd 4607182418800017408 q)) (fdiv (fsub 4607182418800017408 q) (fadd 4607182418800017408 q)))) 13814587147885025094) (fmul (fdiv (fsub 4607182418800017408 q) (fadd 4607182418800017408 q)) (fdiv (fsub 4607182418800017408 q) (fadd 4607182418800017408 q)))) 4592670820000712476) (fmul (fdiv (fsub 4607182418800017408 q) (fadd 4607182418800017408 q)) (fdiv (fsub 4607182418800017408 q) (fadd 4607182418800017408 q)))) 13817687028148020370) (fmul (fdiv (fsub 4607182418800017408 q) (fadd 4607182418800017408 q)) (fdiv (fsub 4607182418800017408 q) (fadd 4607182418800017408 q)))) 4596373779694328218) (fmul (fdiv (fsub 4607182418800017408 q) (fadd 4607182418800017408 q)) (fdiv (fsub 4607182418800017408 q) (fadd 4607182418800017408 q)))) 13823048456275842389) (fmul (fdiv (fsub 4607182418800017408 q) (fadd 4607182418800017408 q)) (fdiv (fsub 4607182418800017408 q) (fadd 4607182418800017408 q)))) 4607182418800017408) (fdiv (fsub 4607182418800017408 q) (fadd 4607182418800017408 q))) 4618760256179416344) else fdiv (fmul (fadd (fmul (fadd (fmul (fadd (fmul (fadd (fmul (fadd (fmul (fadd (fmul (fadd (fmul (fadd (fmul (fadd (fmul (fadd (fmul (fadd (fmul (fadd (fmul (fadd (fmul (fadd (fmul (fadd (fmul (fadd (fmul (fadd (fmul (fadd (fmul (fadd (fmul (fadd (fmul (fadd (fmul (fadd (fmul (fadd (fmul 13805161819457917015 (fmul q q)) 4582062340878461975) (fmul q q)) 13805732290266727924) (fmul q q)) 4582687230582855930) (fmul q q)) 13806419780728628250) (fmul q q)) 4583447231574686416) (fmul q q)) 13807264411867534365) (fmul q q)) 4584391475231203080) (fmul q q)) 13808181734925275268) (fmul q q)) 4585130310279789462) (fmul q q)) 13808870457448935272) (fmul q q)) 4585925428558828667) (fmul q q)) 13809798735632998756) (fmul q q)) 4587023449039406616) (fmul q q)) 13811117867789299496) (fmul q q)) 4588638185040256542) (fmul q q)) 13812840297120469265) (fmul q q)) 4590207312512236308) (fmul q q)) 13814587147885025094) (fmul q q)) 4592670820000712476) (fmul q q)) 13817687028148020370) (fmul q q)) 4596373779694328218) (fmul q q)) 13823048456275842389) (fmul q q)) 4607182418800017408) q) 4618760256179416344)
theorem wPart_v (q : Nat) : wPart_t q = Go.Value.float Go.FloatKind.f64 (wPart_0 q) := by
  unfold wPart_t wPart_0
  cases (fgt q 4601133428098527026) with
  | true =>
    kernel_rfl
  | false =>
    kernel_rfl
theorem wPart_ok (q : Nat) (σ : AHeap) : CallR Try.prog false 126 [Value.float .f64
    q] σ (Go.Value.float Go.FloatKind.f64 (wPart_0 q)) σ := by
  have h := wPart_c q σ
  rw [wPart_v] at h
  exact h
theorem rPart_fok : fnOk (dL9) Try.f188 = true := by kernel_rfl
theorem rPart_p0 (v : Nat) (σ : AHeap) : CallR Try.prog false 188 [Value.float .f64 v] σ (Value.float .f64 (fdiv (fmul (fadd (fmul (fadd (fmul (fadd (fmul (fadd (fmul (fadd (fmul (fadd (fmul (fadd (fmul (fadd (fmul (fadd (fmul (fadd (fmul (fadd (fmul (fadd (fmul (fadd (fmul (fadd (fmul (fadd (fmul (fadd (fmul (fadd (fmul (fadd (fmul (fadd (fmul (fadd (fmul (fadd (fmul (fadd (fmul (fadd (fmul 13805161819457917015 (fmul v v)) 4582062340878461975) (fmul v v)) 13805732290266727924) (fmul v v)) 4582687230582855930) (fmul v v)) 13806419780728628250) (fmul v v)) 4583447231574686416) (fmul v v)) 13807264411867534365) (fmul v v)) 4584391475231203080) (fmul v v)) 13808181734925275268) (fmul v v)) 4585130310279789462) (fmul v v)) 13808870457448935272) (fmul v v)) 4585925428558828667) (fmul v v)) 13809798735632998756) (fmul v v)) 4587023449039406616) (fmul v v)) 13811117867789299496) (fmul v v)) 4588638185040256542) (fmul v v)) 13812840297120469265) (fmul v v)) 4590207312512236308) (fmul v v)) 13814587147885025094) (fmul v v)) 4592670820000712476) (fmul v v)) 13817687028148020370) (fmul v v)) 4596373779694328218) (fmul v v)) 13823048456275842389) (fmul v v)) 4607182418800017408) v) 4618760256179416344)) σ := CallR.of_DO_pure (C := dL9) dL9_ok Try.func188 rPart_fok (n := 100) (orc := []) (ps := []) (σ1 := [AObj.row [Value.float .f64 4607182418800017408] true none, AObj.dead, AObj.row [Value.float .f64 13823048456275842389] true none, AObj.dead, AObj.row [Value.float .f64 4596373779694328218] true none, AObj.dead, AObj.row [Value.float .f64 13817687028148020370] true none, AObj.dead, AObj.row [Value.float .f64 4592670820000712476] true none, AObj.dead, AObj.row [Value.float .f64 13814587147885025094] true none, AObj.dead, AObj.row [Value.float .f64 4590207312512236308] true none, AObj.dead, AObj.row [Value.float .f64 13812840297120469265] true none, AObj.dead, AObj.row [Value.float .f64 4588638185040256542] true none, AObj.dead, AObj.row [Value.float .f64 13811117867789299496] true none, AObj.dead, AObj.row [Value.float .f64 4587023449039406616] true none, AObj.dead, AObj.row [Value.float .f64 13809798735632998756] true none, AObj.dead, AObj.row [Value.float .f64 4585925428558828667] true none, AObj.dead, AObj.row [Value.float .f64 13808870457448935272] true none, AObj.dead, AObj.row [Value.float .f64 4585130310279789462] true none, AObj.dead, AObj.row [Value.float .f64 13808181734925275268] true none, AObj.dead, AObj.row [Value.float .f64 4584391475231203080] true none, AObj.dead, AObj.row [Value.float .f64 13807264411867534365] true none, AObj.dead, AObj.row [Value.float .f64 4583447231574686416] true none, AObj.dead, AObj.row [Value.float .f64 13806419780728628250] true none, AObj.dead, AObj.row [Value.float .f64 4582687230582855930] true none, AObj.dead, AObj.row [Value.float .f64 13805732290266727924] true none, AObj.dead, AObj.row [Value.float .f64 4582062340878461975] true none, AObj.dead, AObj.row [Value.float .f64 13805161819457917015] true none, AObj.row [Value.float .f64 4607182418800017408, Value.float .f64 13823048456275842389, Value.float .f64 4596373779694328218, Value.float .f64 13817687028148020370, Value.float .f64 4592670820000712476, Value.float .f64 13814587147885025094, Value.float .f64 4590207312512236308, Value.float .f64 13812840297120469265, Value.float .f64 4588638185040256542, Value.float .f64 13811117867789299496, Value.float .f64 4587023449039406616, Value.float .f64 13809798735632998756, Value.float .f64 4585925428558828667, Value.float .f64 13808870457448935272, Value.float .f64 4585130310279789462, Value.float .f64 13808181734925275268, Value.float .f64 4584391475231203080, Value.float .f64 13807264411867534365, Value.float .f64 4583447231574686416, Value.float .f64 13806419780728628250, Value.float .f64 4582687230582855930, Value.float .f64 13805732290266727924, Value.float .f64 4582062340878461975, Value.float .f64 13805161819457917015] true (some 1)]) (by kernel_rfl) trivial rfl rfl
def rPart_t (v : Nat) : Value := (Value.float .f64 (fdiv (fmul (fadd (fmul (fadd (fmul (fadd (fmul (fadd (fmul (fadd (fmul (fadd (fmul (fadd (fmul (fadd (fmul (fadd (fmul (fadd (fmul (fadd (fmul (fadd (fmul (fadd (fmul (fadd (fmul (fadd (fmul (fadd (fmul (fadd (fmul (fadd (fmul (fadd (fmul (fadd (fmul (fadd (fmul (fadd (fmul (fadd (fmul 13805161819457917015 (fmul v v)) 4582062340878461975) (fmul v v)) 13805732290266727924) (fmul v v)) 4582687230582855930) (fmul v v)) 13806419780728628250) (fmul v v)) 4583447231574686416) (fmul v v)) 13807264411867534365) (fmul v v)) 4584391475231203080) (fmul v v)) 13808181734925275268) (fmul v v)) 4585130310279789462) (fmul v v)) 13808870457448935272) (fmul v v)) 4585925428558828667) (fmul v v)) 13809798735632998756) (fmul v v)) 4587023449039406616) (fmul v v)) 13811117867789299496) (fmul v v)) 4588638185040256542) (fmul v v)) 13812840297120469265) (fmul v v)) 4590207312512236308) (fmul v v)) 13814587147885025094) (fmul v v)) 4592670820000712476) (fmul v v)) 13817687028148020370) (fmul v v)) 4596373779694328218) (fmul v v)) 13823048456275842389) (fmul v v)) 4607182418800017408) v) 4618760256179416344))
theorem rPart_c (v : Nat) (σ : AHeap) : CallR Try.prog false 188 [Value.float .f64 v] σ (rPart_t v) σ := by
  unfold rPart_t
  exact (rPart_p0 v σ)
def rPart_0 (v : Nat) : Nat := fdiv (fmul (fadd (fmul (fadd (fmul (fadd (fmul (fadd (fmul (fadd (fmul (fadd (fmul (fadd (fmul (fadd (fmul (fadd (fmul (fadd (fmul (fadd (fmul (fadd (fmul (fadd (fmul (fadd (fmul (fadd (fmul (fadd (fmul (fadd (fmul (fadd (fmul (fadd (fmul (fadd (fmul (fadd (fmul (fadd (fmul (fadd (fmul 13805161819457917015 (fmul v v)) 4582062340878461975) (fmul v v)) 13805732290266727924) (fmul v v)) 4582687230582855930) (fmul v v)) 13806419780728628250) (fmul v v)) 4583447231574686416) (fmul v v)) 13807264411867534365) (fmul v v)) 4584391475231203080) (fmul v v)) 13808181734925275268) (fmul v v)) 4585130310279789462) (fmul v v)) 13808870457448935272) (fmul v v)) 4585925428558828667) (fmul v v)) 13809798735632998756) (fmul v v)) 4587023449039406616) (fmul v v)) 13811117867789299496) (fmul v v)) 4588638185040256542) (fmul v v)) 13812840297120469265) (fmul v v)) 4590207312512236308) (fmul v v)) 13814587147885025094) (fmul v v)) 4592670820000712476) (fmul v v)) 13817687028148020370) (fmul v v)) 4596373779694328218) (fmul v v)) 13823048456275842389) (fmul v v)) 4607182418800017408) v) 4618760256179416344
theorem rPart_v (v : Nat) : rPart_t v = Go.Value.float Go.FloatKind.f64 (rPart_0 v) := by
  unfold rPart_t rPart_0
  kernel_rfl
theorem rPart_ok (v : Nat) (σ : AHeap) : CallR Try.prog false 188 [Value.float .f64
    v] σ (Go.Value.float Go.FloatKind.f64 (rPart_0 v)) σ := by
  have h := rPart_c v σ
  rw [rPart_v] at h
  exact h
theorem wKind_fok : fnOk (dL9) Try.f159 = true := by kernel_rfl
theorem wKind_p0 (a : Nat) (b : Nat) (σ : AHeap) (h0 : (fgt (fabs a) 9218868437227405311) = true) : CallR Try.prog false 159 [Value.complex .f64 a b] σ (Value.int IntKind.i8 (Int.ofNat 1)) σ := CallR.of_DO_pure (C := dL9) dL9_ok Try.func159 wKind_fok (n := 100) (orc := [(10, Item.br true), (11, Item.br true)]) (ps := [(bP (fgt (fabs a) 9218868437227405311) true), (bP (fgt (fabs a) 9218868437227405311) true)]) (σ1 := []) (by kernel_rfl) ⟨bP_of (fun x => x) h0, ⟨bP_of (fun x => x) h0, trivial⟩⟩ rfl rfl
theorem wKind_p1 (a : Nat) (b : Nat) (σ : AHeap) (h0 : (fgt (fabs a) 9218868437227405311) = false) (h1 : (fgt (fabs b) 9218868437227405311) = true) : CallR Try.prog false 159 [Value.complex .f64 a b] σ (Value.int IntKind.i8 (Int.ofNat 1)) σ := CallR.of_DO_pure (C := dL9) dL9_ok Try.func159 wKind_fok (n := 100) (orc := [(10, Item.br false), (19, Item.br true)]) (ps := [(bP (fgt (fabs a) 9218868437227405311) false), (bP (fgt (fabs b) 9218868437227405311) true)]) (σ1 := []) (by kernel_rfl) ⟨bP_of (fun x => x) h0, ⟨bP_of (fun x => x) h1, trivial⟩⟩ rfl rfl
theorem wKind_p2 (a : Nat) (b : Nat) (σ : AHeap) (h0 : (fgt (fabs a) 9218868437227405311) = false) (h1 : (fgt (fabs b) 9218868437227405311) = false) (h2 : (feq a a) = true) (h3 : (feq b b) = true) : CallR Try.prog false 159 [Value.complex .f64 a b] σ (Value.int IntKind.i8 (Int.ofNat 0)) σ := CallR.of_DO_pure (C := dL9) dL9_ok Try.func159 wKind_fok (n := 100) (orc := [(10, Item.br false), (19, Item.br false), (32, Item.br false), (45, Item.br false)]) (ps := [(bP (fgt (fabs a) 9218868437227405311) false), (bP (fgt (fabs b) 9218868437227405311) false), (bP (!feq a a) false), (bP (!feq b b) false)]) (σ1 := []) (by kernel_rfl) ⟨bP_of (fun x => x) h0, ⟨bP_of (fun x => x) h1, ⟨bP_of (fun x => !x) h2, ⟨bP_of (fun x => !x) h3, trivial⟩⟩⟩⟩ rfl rfl
theorem wKind_p3 (a : Nat) (b : Nat) (σ : AHeap) (h0 : (fgt (fabs a) 9218868437227405311) = false) (h1 : (fgt (fabs b) 9218868437227405311) = false) (h2 : (feq a a) = true) (h3 : (feq b b) = false) : CallR Try.prog false 159 [Value.complex .f64 a b] σ (Value.int IntKind.i8 (Int.ofNat 2)) σ := CallR.of_DO_pure (C := dL9) dL9_ok Try.func159 wKind_fok (n := 100) (orc := [(10, Item.br false), (19, Item.br false), (32, Item.br false), (45, Item.br true)]) (ps := [(bP (fgt (fabs a) 9218868437227405311) false), (bP (fgt (fabs b) 9218868437227405311) false), (bP (!feq a a) false), (bP (!feq b b) true)]) (σ1 := []) (by kernel_rfl) ⟨bP_of (fun x => x) h0, ⟨bP_of (fun x => x) h1, ⟨bP_of (fun x => !x) h2, ⟨bP_of (fun x => !x) h3, trivial⟩⟩⟩⟩ rfl rfl
theorem wKind_p4 (a : Nat) (b : Nat) (σ : AHeap) (h0 : (fgt (fabs a) 9218868437227405311) = false) (h1 : (fgt (fabs b) 9218868437227405311) = false) (h2 : (feq a a) = false) : CallR Try.prog false 159 [Value.complex .f64 a b] σ (Value.int IntKind.i8 (Int.ofNat 2)) σ := CallR.of_DO_pure (C := dL9) dL9_ok Try.func159 wKind_fok (n := 100) (orc := [(10, Item.br false), (19, Item.br false), (32, Item.br true), (33, Item.br true)]) (ps := [(bP (fgt (fabs a) 9218868437227405311) false), (bP (fgt (fabs b) 9218868437227405311) false), (bP (!feq a a) true), (bP (!feq a a) true)]) (σ1 := []) (by kernel_rfl) ⟨bP_of (fun x => x) h0, ⟨bP_of (fun x => x) h1, ⟨bP_of (fun x => !x) h2, ⟨bP_of (fun x => !x) h2, trivial⟩⟩⟩⟩ rfl rfl
def wKind_t (a : Nat) (b : Nat) : Value := (bif fgt (fabs a) 9218868437227405311 then (Value.int IntKind.i8 (Int.ofNat 1)) else (bif fgt (fabs b) 9218868437227405311 then (Value.int IntKind.i8 (Int.ofNat 1)) else (bif feq a a then (bif feq b b then (Value.int IntKind.i8 (Int.ofNat 0)) else (Value.int IntKind.i8 (Int.ofNat 2))) else (Value.int IntKind.i8 (Int.ofNat 2)))))
theorem wKind_c (a : Nat) (b : Nat) (σ : AHeap) : CallR Try.prog false 159 [Value.complex .f64 a
    b] σ (wKind_t a b) σ := by
  unfold wKind_t
  exact (CallR.bif (fun h0 => (wKind_p0 a b σ h0)) (fun h0 => (CallR.bif (fun h1 => (wKind_p1 a b σ h0 h1)) (fun h1 => (CallR.bif (fun h2 => (CallR.bif (fun h3 => (wKind_p2 a b σ h0 h1 h2 h3)) (fun h3 => (wKind_p3 a b σ h0 h1 h2 h3)))) (fun h2 => (wKind_p4 a b σ h0 h1 h2)))))))
def wKind_0 (a : Nat) (b : Nat) : Int := (bif fgt (fabs a) 9218868437227405311 then Int.ofNat 1 else (bif fgt (fabs b) 9218868437227405311 then Int.ofNat 1 else (bif feq a a then (bif feq b b then Int.ofNat 0 else Int.ofNat 2) else Int.ofNat 2)))
theorem wKind_v (a : Nat) (b : Nat) : wKind_t a b = Go.Value.int Go.IntKind.i8 (wKind_0 a b) := by
  unfold wKind_t wKind_0
  cases (fgt (fabs a) 9218868437227405311) with
  | true =>
    kernel_rfl
  | false =>
    cases (fgt (fabs b) 9218868437227405311) with
    | true =>
      kernel_rfl
    | false =>
      cases (feq a a) with
      | true =>
        cases (feq b b) with
        | true =>
          kernel_rfl
        | false =>
          kernel_rfl
      | false =>
        kernel_rfl
theorem wKind_ok (a : Nat) (b : Nat) (σ : AHeap) : CallR Try.prog false 159 [Value.complex .f64 a
    b] σ (Go.Value.int Go.IntKind.i8 (wKind_0 a b)) σ := by
  have h := wKind_c a b σ
  rw [wKind_v] at h
  exact h
theorem rEnd_fok : fnOk (dL9) Try.f187 = true := by kernel_rfl
theorem rEnd_p0 (x : Nat) (σ : AHeap) (h0 : (fgt x 9218868437227405311) = true) : CallR Try.prog false 187 [Value.float .f64 x] σ (Value.bool true) σ := CallR.of_DO_pure (C := dL9) dL9_ok Try.func187 rEnd_fok (n := 100) (orc := [(8, Item.br false), (10, Item.br false), (13, Item.res (Value.bool true))]) (ps := [(bP (fgt x 9218868437227405311 == false) false), (bP (fgt x 9218868437227405311 == false) false), (pP (some (Value.bool true)) (none) ([]) (fgt x 9218868437227405311) (Value.bool true))]) (σ1 := []) (by kernel_rfl) ⟨bP_of (fun x => x == false) h0, ⟨bP_of (fun x => x == false) h0, ⟨pP_t _ _ _ (congrArg (fun bb => (bb)) h0), trivial⟩⟩⟩ rfl rfl
theorem rEnd_p1 (x : Nat) (σ : AHeap) (h0 : (fgt x 9218868437227405311) = false) : CallR Try.prog false 187 [Value.float .f64 x] σ (Value.bool (flt x 18442240474082181119)) σ := CallR.of_DO_pure (C := dL9) dL9_ok Try.func187 rEnd_fok (n := 100) (orc := [(8, Item.br true), (10, Item.br true), (13, Item.res (Value.bool (flt x 18442240474082181119)))]) (ps := [(bP (fgt x 9218868437227405311 == false) true), (bP (fgt x 9218868437227405311 == false) true), (pP (some (Value.bool true)) (some (Value.bool (flt x 18442240474082181119))) ([]) (fgt x 9218868437227405311) (Value.bool (flt x 18442240474082181119)))]) (σ1 := []) (by kernel_rfl) ⟨bP_of (fun x => x == false) h0, ⟨bP_of (fun x => x == false) h0, ⟨pP_f _ _ _ (congrArg (fun bb => (bb)) h0), trivial⟩⟩⟩ rfl rfl
def rEnd_t (x : Nat) : Value := (bif fgt x 9218868437227405311 then (Value.bool true) else (Value.bool (flt x 18442240474082181119)))
theorem rEnd_c (x : Nat) (σ : AHeap) : CallR Try.prog false 187 [Value.float .f64 x] σ (rEnd_t x) σ := by
  unfold rEnd_t
  exact (CallR.bif (fun h0 => (rEnd_p0 x σ h0)) (fun h0 => (rEnd_p1 x σ h0)))
def rEnd_0 (x : Nat) : Bool := (bif fgt x 9218868437227405311 then true else flt x 18442240474082181119)
theorem rEnd_v (x : Nat) : rEnd_t x = Go.Value.bool (rEnd_0 x) := by
  unfold rEnd_t rEnd_0
  cases (fgt x 9218868437227405311) with
  | true =>
    kernel_rfl
  | false =>
    kernel_rfl
theorem rEnd_ok (x : Nat) (σ : AHeap) : CallR Try.prog false 187 [Value.float .f64
    x] σ (Go.Value.bool (rEnd_0 x)) σ := by
  have h := rEnd_c x σ
  rw [rEnd_v] at h
  exact h
theorem wPos_fok : fnOk (dL9) Try.f132 = true := by kernel_rfl
theorem wPos_p0 (x : Nat) (σ : AHeap) (h0 : (flt x 0) = true) (h1 : (fge (fadd x 4607182418800017408) 4607182418800017408) = true) : CallR Try.prog false 132 [Value.float .f64 x] σ (Value.float .f64 0) σ := CallR.of_DO_pure (C := dL9) dL9_ok Try.func132 wPos_fok (n := 100) (orc := [(6, Item.br true), (17, Item.br true)]) (ps := [(bP (flt x 0) true), (bP (fge (fadd x 4607182418800017408) 4607182418800017408) true)]) (σ1 := []) (by kernel_rfl) ⟨bP_of (fun x => x) h0, ⟨bP_of (fun x => x) h1, trivial⟩⟩ rfl rfl
theorem wPos_p1 (x : Nat) (σ : AHeap) (h0 : (flt x 0) = true) (h1 : (fge (fadd x 4607182418800017408) 4607182418800017408) = false) : CallR Try.prog false 132 [Value.float .f64 x] σ (Value.float .f64 (fadd x 4607182418800017408)) σ := CallR.of_DO_pure (C := dL9) dL9_ok Try.func132 wPos_fok (n := 100) (orc := [(6, Item.br true), (17, Item.br false)]) (ps := [(bP (flt x 0) true), (bP (fge (fadd x 4607182418800017408) 4607182418800017408) false)]) (σ1 := []) (by kernel_rfl) ⟨bP_of (fun x => x) h0, ⟨bP_of (fun x => x) h1, trivial⟩⟩ rfl rfl
theorem wPos_p2 (x : Nat) (σ : AHeap) (h0 : (flt x 0) = false) (h1 : (fge x 4607182418800017408) = true) : CallR Try.prog false 132 [Value.float .f64 x] σ (Value.float .f64 0) σ := CallR.of_DO_pure (C := dL9) dL9_ok Try.func132 wPos_fok (n := 100) (orc := [(6, Item.br false), (11, Item.br true)]) (ps := [(bP (flt x 0) false), (bP (fge x 4607182418800017408) true)]) (σ1 := []) (by kernel_rfl) ⟨bP_of (fun x => x) h0, ⟨bP_of (fun x => x) h1, trivial⟩⟩ rfl rfl
theorem wPos_p3 (x : Nat) (σ : AHeap) (h0 : (flt x 0) = false) (h1 : (fge x 4607182418800017408) = false) : CallR Try.prog false 132 [Value.float .f64 x] σ (Value.float .f64 x) σ := CallR.of_DO_pure (C := dL9) dL9_ok Try.func132 wPos_fok (n := 100) (orc := [(6, Item.br false), (11, Item.br false)]) (ps := [(bP (flt x 0) false), (bP (fge x 4607182418800017408) false)]) (σ1 := []) (by kernel_rfl) ⟨bP_of (fun x => x) h0, ⟨bP_of (fun x => x) h1, trivial⟩⟩ rfl rfl
def wPos_t (x : Nat) : Value := (bif flt x 0 then (bif fge (fadd x 4607182418800017408) 4607182418800017408 then (Value.float .f64 0) else (Value.float .f64 (fadd x 4607182418800017408))) else (bif fge x 4607182418800017408 then (Value.float .f64 0) else (Value.float .f64 x)))
theorem wPos_c (x : Nat) (σ : AHeap) : CallR Try.prog false 132 [Value.float .f64 x] σ (wPos_t x) σ := by
  unfold wPos_t
  exact (CallR.bif (fun h0 => (CallR.bif (fun h1 => (wPos_p0 x σ h0 h1)) (fun h1 => (wPos_p1 x σ h0 h1)))) (fun h0 => (CallR.bif (fun h1 => (wPos_p2 x σ h0 h1)) (fun h1 => (wPos_p3 x σ h0 h1)))))
def wPos_0 (x : Nat) : Nat := (bif flt x 0 then (bif fge (fadd x 4607182418800017408) 4607182418800017408 then 0 else fadd x 4607182418800017408) else (bif fge x 4607182418800017408 then 0 else x))
theorem wPos_v (x : Nat) : wPos_t x = Go.Value.float Go.FloatKind.f64 (wPos_0 x) := by
  unfold wPos_t wPos_0
  cases (flt x 0) with
  | true =>
    cases (fge (fadd x 4607182418800017408) 4607182418800017408) with
    | true =>
      kernel_rfl
    | false =>
      kernel_rfl
  | false =>
    cases (fge x 4607182418800017408) with
    | true =>
      kernel_rfl
    | false =>
      kernel_rfl
theorem wPos_ok (x : Nat) (σ : AHeap) : CallR Try.prog false 132 [Value.float .f64
    x] σ (Go.Value.float Go.FloatKind.f64 (wPos_0 x)) σ := by
  have h := wPos_c x σ
  rw [wPos_v] at h
  exact h
theorem rRound_fok : fnOk (dL9) Try.f139 = true := by kernel_rfl
theorem rRound_p0 (x : Nat) (σ : AHeap) (h0 : (flt x 0) = true) (h1 : (fge (fadd x 4607182418800017408) 4607182418800017408) = true) : CallR Try.prog false 139 [Value.float .f64 x] σ (Value.float .f64 0) σ := CallR.of_DO_pure (C := dL9) dL9_ok Try.func139 rRound_fok (n := 100) (orc := [(6, Item.br true), (17, Item.br true)]) (ps := [(bP (flt x 0) true), (bP (fge (fadd x 4607182418800017408) 4607182418800017408) true)]) (σ1 := []) (by kernel_rfl) ⟨bP_of (fun x => x) h0, ⟨bP_of (fun x => x) h1, trivial⟩⟩ rfl rfl
theorem rRound_p1 (x : Nat) (σ : AHeap) (h0 : (flt x 0) = true) (h1 : (fge (fadd x 4607182418800017408) 4607182418800017408) = false) : CallR Try.prog false 139 [Value.float .f64 x] σ (Value.float .f64 (fadd x 4607182418800017408)) σ := CallR.of_DO_pure (C := dL9) dL9_ok Try.func139 rRound_fok (n := 100) (orc := [(6, Item.br true), (17, Item.br false)]) (ps := [(bP (flt x 0) true), (bP (fge (fadd x 4607182418800017408) 4607182418800017408) false)]) (σ1 := []) (by kernel_rfl) ⟨bP_of (fun x => x) h0, ⟨bP_of (fun x => x) h1, trivial⟩⟩ rfl rfl
theorem rRound_p2 (x : Nat) (σ : AHeap) (h0 : (flt x 0) = false) (h1 : (fge x 4607182418800017408) = true) : CallR Try.prog false 139 [Value.float .f64 x] σ (Value.float .f64 0) σ := CallR.of_DO_pure (C := dL9) dL9_ok Try.func139 rRound_fok (n := 100) (orc := [(6, Item.br false), (11, Item.br true)]) (ps := [(bP (flt x 0) false), (bP (fge x 4607182418800017408) true)]) (σ1 := []) (by kernel_rfl) ⟨bP_of (fun x => x) h0, ⟨bP_of (fun x => x) h1, trivial⟩⟩ rfl rfl
theorem rRound_p3 (x : Nat) (σ : AHeap) (h0 : (flt x 0) = false) (h1 : (fge x 4607182418800017408) = false) : CallR Try.prog false 139 [Value.float .f64 x] σ (Value.float .f64 x) σ := CallR.of_DO_pure (C := dL9) dL9_ok Try.func139 rRound_fok (n := 100) (orc := [(6, Item.br false), (11, Item.br false)]) (ps := [(bP (flt x 0) false), (bP (fge x 4607182418800017408) false)]) (σ1 := []) (by kernel_rfl) ⟨bP_of (fun x => x) h0, ⟨bP_of (fun x => x) h1, trivial⟩⟩ rfl rfl
def rRound_t (x : Nat) : Value := (bif flt x 0 then (bif fge (fadd x 4607182418800017408) 4607182418800017408 then (Value.float .f64 0) else (Value.float .f64 (fadd x 4607182418800017408))) else (bif fge x 4607182418800017408 then (Value.float .f64 0) else (Value.float .f64 x)))
theorem rRound_c (x : Nat) (σ : AHeap) : CallR Try.prog false 139 [Value.float .f64 x] σ (rRound_t x) σ := by
  unfold rRound_t
  exact (CallR.bif (fun h0 => (CallR.bif (fun h1 => (rRound_p0 x σ h0 h1)) (fun h1 => (rRound_p1 x σ h0 h1)))) (fun h0 => (CallR.bif (fun h1 => (rRound_p2 x σ h0 h1)) (fun h1 => (rRound_p3 x σ h0 h1)))))
def rRound_0 (x : Nat) : Nat := (bif flt x 0 then (bif fge (fadd x 4607182418800017408) 4607182418800017408 then 0 else fadd x 4607182418800017408) else (bif fge x 4607182418800017408 then 0 else x))
theorem rRound_v (x : Nat) : rRound_t x = Go.Value.float Go.FloatKind.f64 (rRound_0 x) := by
  unfold rRound_t rRound_0
  cases (flt x 0) with
  | true =>
    cases (fge (fadd x 4607182418800017408) 4607182418800017408) with
    | true =>
      kernel_rfl
    | false =>
      kernel_rfl
  | false =>
    cases (fge x 4607182418800017408) with
    | true =>
      kernel_rfl
    | false =>
      kernel_rfl
theorem rRound_ok (x : Nat) (σ : AHeap) : CallR Try.prog false 139 [Value.float .f64
    x] σ (Go.Value.float Go.FloatKind.f64 (rRound_0 x)) σ := by
  have h := rRound_c x σ
  rw [rRound_v] at h
  exact h
theorem rIsFin_fok : fnOk (dL9) Try.f141 = true := by kernel_rfl
theorem rIsFin_p0 (x : Nat) (σ : AHeap) (h0 : (feq x x) = true) (h1 : (fle x 9218868437227405311) = true) : CallR Try.prog false 141 [Value.float .f64 x] σ (Value.bool (fge x 18442240474082181119)) σ := CallR.of_DO_pure (C := dL9) dL9_ok Try.func141 rIsFin_fok (n := 100) (orc := [(10, Item.br true), (12, Item.br true), (15, Item.res (Value.bool (fle x 9218868437227405311))), (18, Item.br true), (20, Item.br true), (23, Item.res (Value.bool (fge x 18442240474082181119)))]) (ps := [(bP (feq x x == true) true), (bP (feq x x == true) true), (pP (some (Value.bool (fle x 9218868437227405311))) (some (Value.bool false)) ([]) (feq x x) (Value.bool (fle x 9218868437227405311))), (bP (fle x 9218868437227405311 == true) true), (bP (fle x 9218868437227405311 == true) true), (pP (some (Value.bool (fge x 18442240474082181119))) (some (Value.bool false)) ([]) (fle x 9218868437227405311) (Value.bool (fge x 18442240474082181119)))]) (σ1 := []) (by kernel_rfl) ⟨bP_of (fun x => x == true) h0, ⟨bP_of (fun x => x == true) h0, ⟨pP_t _ _ _ (congrArg (fun bb => (bb)) h0), ⟨bP_of (fun x => x == true) h1, ⟨bP_of (fun x => x == true) h1, ⟨pP_t _ _ _ (congrArg (fun bb => (bb)) h1), trivial⟩⟩⟩⟩⟩⟩ rfl rfl
theorem rIsFin_p1 (x : Nat) (σ : AHeap) (h0 : (feq x x) = true) (h1 : (fle x 9218868437227405311) = false) : CallR Try.prog false 141 [Value.float .f64 x] σ (Value.bool false) σ := CallR.of_DO_pure (C := dL9) dL9_ok Try.func141 rIsFin_fok (n := 100) (orc := [(10, Item.br true), (12, Item.br true), (15, Item.res (Value.bool (fle x 9218868437227405311))), (18, Item.br false), (20, Item.br false), (23, Item.res (Value.bool false))]) (ps := [(bP (feq x x == true) true), (bP (feq x x == true) true), (pP (some (Value.bool (fle x 9218868437227405311))) (some (Value.bool false)) ([]) (feq x x) (Value.bool (fle x 9218868437227405311))), (bP (fle x 9218868437227405311 == true) false), (bP (fle x 9218868437227405311 == true) false), (pP (none) (some (Value.bool false)) ([]) (fle x 9218868437227405311) (Value.bool false))]) (σ1 := []) (by kernel_rfl) ⟨bP_of (fun x => x == true) h0, ⟨bP_of (fun x => x == true) h0, ⟨pP_t _ _ _ (congrArg (fun bb => (bb)) h0), ⟨bP_of (fun x => x == true) h1, ⟨bP_of (fun x => x == true) h1, ⟨pP_f _ _ _ (congrArg (fun bb => (bb)) h1), trivial⟩⟩⟩⟩⟩⟩ rfl rfl
theorem rIsFin_p2 (x : Nat) (σ : AHeap) (h0 : (feq x x) = false) : CallR Try.prog false 141 [Value.float .f64 x] σ (Value.bool false) σ := CallR.of_DO_pure (C := dL9) dL9_ok Try.func141 rIsFin_fok (n := 100) (orc := [(10, Item.br false), (12, Item.br false), (15, Item.res (Value.bool false))]) (ps := [(bP (feq x x == true) false), (bP (feq x x == true) false), (pP (none) (some (Value.bool false)) ([]) (feq x x) (Value.bool false))]) (σ1 := []) (by kernel_rfl) ⟨bP_of (fun x => x == true) h0, ⟨bP_of (fun x => x == true) h0, ⟨pP_f _ _ _ (congrArg (fun bb => (bb)) h0), trivial⟩⟩⟩ rfl rfl
def rIsFin_t (x : Nat) : Value := (bif feq x x then (bif fle x 9218868437227405311 then (Value.bool (fge x 18442240474082181119)) else (Value.bool false)) else (Value.bool false))
theorem rIsFin_c (x : Nat) (σ : AHeap) : CallR Try.prog false 141 [Value.float .f64 x] σ (rIsFin_t x) σ := by
  unfold rIsFin_t
  exact (CallR.bif (fun h0 => (CallR.bif (fun h1 => (rIsFin_p0 x σ h0 h1)) (fun h1 => (rIsFin_p1 x σ h0 h1)))) (fun h0 => (rIsFin_p2 x σ h0)))
def rIsFin_0 (x : Nat) : Bool := (bif feq x x then (bif fle x 9218868437227405311 then fge x 18442240474082181119 else false) else false)
theorem rIsFin_v (x : Nat) : rIsFin_t x = Go.Value.bool (rIsFin_0 x) := by
  unfold rIsFin_t rIsFin_0
  cases (feq x x) with
  | true =>
    cases (fle x 9218868437227405311) with
    | true =>
      kernel_rfl
    | false =>
      kernel_rfl
  | false =>
    kernel_rfl
theorem rIsFin_ok (x : Nat) (σ : AHeap) : CallR Try.prog false 141 [Value.float .f64
    x] σ (Go.Value.bool (rIsFin_0 x)) σ := by
  have h := rIsFin_c x σ
  rw [rIsFin_v] at h
  exact h
def sPart : PureFn
  | [.float .f64 x] => some (.float .f64 (wPart_0 x))
  | _ => none
theorem sPart_ok : IsPure Try.prog false 126 sPart := by
  intro args v σ h
  unfold sPart at h
  split at h
  · cases h; exact wPart_ok _ σ
  · cases h
def sRPart : PureFn
  | [.float .f64 x] => some (.float .f64 (rPart_0 x))
  | _ => none
theorem sRPart_ok : IsPure Try.prog false 188 sRPart := by
  intro args v σ h
  unfold sRPart at h
  split at h
  · cases h; exact rPart_ok _ σ
  · cases h
def sKind : PureFn
  | [.complex .f64 a b] => some (.int .i8 (wKind_0 a b))
  | _ => none
theorem sKind_ok : IsPure Try.prog false 159 sKind := by
  intro args v σ h
  unfold sKind at h
  split at h
  · cases h; exact wKind_ok _ _ σ
  · cases h
def sREnd : PureFn
  | [.float .f64 x] => some (.bool (rEnd_0 x))
  | _ => none
theorem sREnd_ok : IsPure Try.prog false 187 sREnd := by
  intro args v σ h
  unfold sREnd at h
  split at h
  · cases h; exact rEnd_ok _ σ
  · cases h
def sPos : PureFn
  | [.float .f64 x] => some (.float .f64 (wPos_0 x))
  | _ => none
theorem sPos_ok : IsPure Try.prog false 132 sPos := by
  intro args v σ h
  unfold sPos at h
  split at h
  · cases h; exact wPos_ok _ σ
  · cases h
def sRRound : PureFn
  | [.float .f64 x] => some (.float .f64 (rRound_0 x))
  | _ => none
theorem sRRound_ok : IsPure Try.prog false 139 sRRound := by
  intro args v σ h
  unfold sRRound at h
  split at h
  · cases h; exact rRound_ok _ σ
  · cases h
def sRIsFin : PureFn
  | [.float .f64 x] => some (.bool (rIsFin_0 x))
  | _ => none
theorem sRIsFin_ok : IsPure Try.prog false 141 sRIsFin := by
  intro args v σ h
  unfold sRIsFin at h
  split at h
  · cases h; exact rIsFin_ok _ σ
  · cases h
noncomputable def t9 : Tab := ((((((((t8.addP 126 sPart).addP 188 sRPart).addP 159 sKind).addP 187 sREnd).addP 132 sPos).addP 139 sRRound).addP 141 sRIsFin).addP 189 sTurned)
theorem t9_ok : t9.Ok Try.prog false := (Tab.Ok.addP (Tab.Ok.addP (Tab.Ok.addP (Tab.Ok.addP (Tab.Ok.addP (Tab.Ok.addP (Tab.Ok.addP (Tab.Ok.addP t8_ok sPart_ok) sRPart_ok) sKind_ok) sREnd_ok) sPos_ok) sRRound_ok) sRIsFin_ok) sTurned_ok)
end Go.Lk
