/- The math functions and others without branches, out of their bodies. -/
import Derived.Test.YtmomainjlncogaaLkMX
namespace Go.Lk
open Go.Proofs
set_option maxRecDepth 100000
noncomputable def L2 : Lib := ⟨Try.prog, false, t2, [(181, Try.f181), (160, Try.f160), (69, Try.f69), (55, Try.f55), (123, Try.f123), (33, Try.f33), (127, Try.f127), (128, Try.f128), (207, Try.f207), (43, Try.f43), (122, Try.f122), (133, Try.f133), (134, Try.f134), (135, Try.f135), (136, Try.f136), (137, Try.f137), (142, Try.f142), (109, Try.f109)], []⟩
theorem L2_fp : ∀ e, e ∈ L2.pures → Try.prog.funcs[e.1]? = some e.2 := fs_cons Try.func181 (fs_cons Try.func160 (fs_cons Try.func69 (fs_cons Try.func55 (fs_cons Try.func123 (fs_cons Try.func33 (fs_cons Try.func127 (fs_cons Try.func128 (fs_cons Try.func207 (fs_cons Try.func43 (fs_cons Try.func122 (fs_cons Try.func133 (fs_cons Try.func134 (fs_cons Try.func135 (fs_cons Try.func136 (fs_cons Try.func137 (fs_cons Try.func142 (fs_cons Try.func109 (fs_nil))))))))))))))))))
theorem L2_fh : ∀ e, e ∈ L2.heaps → Try.prog.funcs[e.1]? = some e.2.2 := gs_nil
theorem L2_p1 (gp : Nat → PureFn) (g : Nat → HeapFn) : (L2.pures.all fun e => fnOk (L2.mk' gp g) e.2) = true := by kernel_rfl
theorem L2_h1 (gp : Nat → PureFn) (g : Nat → HeapFn) : (L2.heaps.all fun e => fnOk (L2.mk' gp g) e.2.2 && (!e.2.1 || fnRo (L2.mk' gp g) e.2.2)) = true := by kernel_rfl
theorem L2_ok : L2.Ok := ⟨t2_ok, mixed, L2_fp, L2_fh, L2_p1, L2_h1⟩

noncomputable def d2 : Cfg := L2.cfg 100 4
theorem d2_ok : d2.Ok := L2_ok.cfg 100 4
end Go.Lk
