/- PlaceTurns, PlaceKnown: walks. -/
import Derived.Test.YtmomainjlncogaaLkGF
namespace Go.Lk
open Go.Proofs
set_option maxRecDepth 100000
set_option maxHeartbeats 0
set_option linter.unusedVariables false
set_option linter.unusedSimpArgs false
def sTo : PureFn
  | [.float .f64 m, .float .f64 b] => some (.agg #[.float .f64 (wTo_0 m b), .float .f64 (wTo_1 m b)])
  | _ => none
theorem sTo_ok : IsPure Try.prog false 56 sTo := by
  intro args v σ h
  unfold sTo at h
  split at h
  · cases h; exact wTo_ok _ _ σ
  · cases h
def sRTo : PureFn
  | [.float .f64 m, .float .f64 b] => some (.agg #[.float .f64 (rTo_0 m b), .float .f64 (rTo_1 m b)])
  | _ => none
theorem sRTo_ok : IsPure Try.prog false 60 sRTo := by
  intro args v σ h
  unfold sRTo at h
  split at h
  · cases h; exact rTo_ok _ _ σ
  · cases h
def sFrom : PureFn
  | [.agg ⟨[.float .f64 x, .float .f64 y]⟩] => some (.tuple #[.float .f64 (wFrom_0 x y), .float .f64 (wFrom_1 x y)])
  | _ => none
theorem sFrom_ok : IsPure Try.prog false 53 sFrom := by
  intro args v σ h
  unfold sFrom at h
  split at h
  · cases h; exact wFrom_ok _ _ σ
  · cases h
def sRFrom : PureFn
  | [.agg ⟨[.float .f64 x, .float .f64 y]⟩] => some (.tuple #[.float .f64 (rFrom_0 x y), .float .f64 (rFrom_1 x y)])
  | _ => none
theorem sRFrom_ok : IsPure Try.prog false 59 sRFrom := by
  intro args v σ h
  unfold sRFrom at h
  split at h
  · cases h; exact rFrom_ok _ _ σ
  · cases h
def sMoved : PureFn
  | [.agg ⟨[.float .f64 u, .float .f64 v, .float .f64 t]⟩, .agg ⟨[.float .f64 x, .float .f64 y]⟩] => some (.agg #[.float .f64 (wMoved_0 u v t x y), .float .f64 (wMoved_1 u v t x y)])
  | _ => none
theorem sMoved_ok : IsPure Try.prog false 54 sMoved := by
  intro args v σ h
  unfold sMoved at h
  split at h
  · cases h; exact wMoved_ok _ _ _ _ _ σ
  · cases h
def sRMoved : PureFn
  | [.agg ⟨[.float .f64 u, .float .f64 v, .float .f64 t]⟩, .agg ⟨[.float .f64 x, .float .f64 y]⟩] => some (.agg #[.float .f64 (rMoved_0 u v t x y), .float .f64 (rMoved_1 u v t x y)])
  | _ => none
theorem sRMoved_ok : IsPure Try.prog false 62 sRMoved := by
  intro args v σ h
  unfold sRMoved at h
  split at h
  · cases h; exact rMoved_ok _ _ _ _ _ σ
  · cases h
def sBack : PureFn
  | [.agg ⟨[.float .f64 u, .float .f64 v, .float .f64 t]⟩, .agg ⟨[.float .f64 x, .float .f64 y]⟩] => some (.agg #[.float .f64 (wBack_0 u v t x y), .float .f64 (wBack_1 u v t x y)])
  | _ => none
theorem sBack_ok : IsPure Try.prog false 57 sBack := by
  intro args v σ h
  unfold sBack at h
  split at h
  · cases h; exact wBack_ok _ _ _ _ _ σ
  · cases h
def sRBack : PureFn
  | [.agg ⟨[.float .f64 u, .float .f64 v, .float .f64 t]⟩, .agg ⟨[.float .f64 x, .float .f64 y]⟩] => some (.agg #[.float .f64 (rBack_0 u v t x y), .float .f64 (rBack_1 u v t x y)])
  | _ => none
theorem sRBack_ok : IsPure Try.prog false 63 sRBack := by
  intro args v σ h
  unfold sRBack at h
  split at h
  · cases h; exact rBack_ok _ _ _ _ _ σ
  · cases h
def sSameP : PureFn
  | [.agg ⟨[.float .f64 a, .float .f64 b]⟩, .agg ⟨[.float .f64 c, .float .f64 d]⟩] => some (.bool (gSameP_0 a b c d))
  | _ => none
theorem sSameP_ok : IsPure Try.prog false 49 sSameP := by
  intro args v σ h
  unfold sSameP at h
  split at h
  · cases h; exact gSameP_ok _ _ _ _ σ
  · cases h
def okSec (b : Nat) (n : Int) : Bool := decide (n < 1) || decide (n > 4096) || !feq (fsub b b) 0 || okI .i64 (ffloor (fmul (wPos_0 (wrapP b)) (FloatKind.f64.nearest n)))
def okRSec (b : Nat) (n : Int) : Bool := decide (n < 1) || decide (n > 4096) || !rIsFin_0 b || okI .i64 (ffloor (fmul (rRound_0 (rWrap_0 b)) (FloatKind.f64.nearest n)))
def sSector : PureFn
  | [.float .f64 b, .int .i64 n] => bif okSec b n then some (.tuple #[.int .i64 (wSector_0 b n), .int .i64 (wSector_1 b n)]) else none
  | _ => none
theorem sSector_ok : IsPure Try.prog false 52 sSector := by
  intro args v σ h
  unfold sSector at h
  split at h
  · rename_i b n
    cases hb : okSec b n
    · rw [hb] at h; cases h
    · rw [hb] at h
      cases h
      exact wSector_ok b n σ (fun h1 h2 h3 => by unfold okSec at hb; rw [h1, h2, h3] at hb; simpa using hb)
  · cases h
def sRSector : PureFn
  | [.float .f64 b, .int .i64 n] => bif okRSec b n then some (.tuple #[.int .i64 (rSector_0 b n), .int .i64 (rSector_1 b n)]) else none
  | _ => none
theorem sRSector_ok : IsPure Try.prog false 61 sRSector := by
  intro args v σ h
  unfold sRSector at h
  split at h
  · rename_i b n
    cases hb : okRSec b n
    · rw [hb] at h; cases h
    · rw [hb] at h
      cases h
      exact rSector_ok b n σ (fun h1 h2 h3 => by unfold okRSec at hb; rw [h1, h2, h3] at hb; simpa using hb)
  · cases h
noncomputable def t12 : Tab := (((((((((((t11.addP 56 sTo).addP 60 sRTo).addP 53 sFrom).addP 59 sRFrom).addP 54 sMoved).addP 62 sRMoved).addP 57 sBack).addP 63 sRBack).addP 49 sSameP).addP 52 sSector).addP 61 sRSector)
theorem t12_ok : t12.Ok Try.prog false := (Tab.Ok.addP (Tab.Ok.addP (Tab.Ok.addP (Tab.Ok.addP (Tab.Ok.addP (Tab.Ok.addP (Tab.Ok.addP (Tab.Ok.addP (Tab.Ok.addP (Tab.Ok.addP (Tab.Ok.addP t11_ok sTo_ok) sRTo_ok) sFrom_ok) sRFrom_ok) sMoved_ok) sRMoved_ok) sBack_ok) sRBack_ok) sSameP_ok) sSector_ok) sRSector_ok)
noncomputable def L12 : Lib := ⟨Try.prog, false, t12, [(46, Try.f46), (55, Try.f55), (51, Try.f51)], [(58, false, Try.f58)]⟩
theorem L12_fp : ∀ e, e ∈ L12.pures → Try.prog.funcs[e.1]? = some e.2 := fs_cons Try.func46 (fs_cons Try.func55 (fs_cons Try.func51 (fs_nil)))
theorem L12_fh : ∀ e, e ∈ L12.heaps → Try.prog.funcs[e.1]? = some e.2.2 := gs_cons Try.func58 (gs_nil)
theorem L12_p1 (gp : Nat → PureFn) (g : Nat → HeapFn) : (L12.pures.all fun e => fnOk (L12.mk' gp g) e.2) = true := by kernel_rfl
theorem L12_h1 (gp : Nat → PureFn) (g : Nat → HeapFn) : (L12.heaps.all fun e => fnOk (L12.mk' gp g) e.2.2 && (!e.2.1 || fnRo (L12.mk' gp g) e.2.2)) = true := by kernel_rfl
theorem L12_ok : L12.Ok := ⟨t12_ok, mixed, L12_fp, L12_fh, L12_p1, L12_h1⟩
noncomputable def dL12 : Cfg := L12.cfg 100 6
theorem dL12_ok : dL12.Ok := L12_ok.cfg 100 6

theorem kPlace_fok : fnOk (dL12) Try.f9 = true := by kernel_rfl
theorem kPlace_p0 (σ : AHeap) : CallR Try.prog false 9 [] σ (Value.bool true) σ := CallR.of_DO_pure (C := dL12) dL12_ok Try.func9 kPlace_fok (n := 100) (orc := []) (ps := []) (σ1 := [AObj.row [Value.float FloatKind.f64 4621819117588971520, Value.float FloatKind.f64 4626322717216342016, Value.float FloatKind.f64 4598175219545276416] true none, AObj.row [Value.float FloatKind.f64 4624633867356078080, Value.float FloatKind.f64 4626322717216342016] true none, AObj.row [Value.float FloatKind.f64 0, Value.float FloatKind.f64 0, Value.float FloatKind.f64 4616189618054758400, Value.float FloatKind.f64 0, Value.float FloatKind.f64 4616189618054758400, Value.float FloatKind.f64 4616189618054758400, Value.float FloatKind.f64 0, Value.float FloatKind.f64 4616189618054758400] true none, AObj.row [Value.float FloatKind.f64 0, Value.float FloatKind.f64 0, Value.float FloatKind.f64 4616189618054758400, Value.float FloatKind.f64 0, Value.float FloatKind.f64 4616189618054758400, Value.float FloatKind.f64 4616189618054758400, Value.float FloatKind.f64 0, Value.float FloatKind.f64 4616189618054758400] true none, AObj.row [Value.float FloatKind.f64 0, Value.float FloatKind.f64 0, Value.float FloatKind.f64 4616189618054758400, Value.float FloatKind.f64 0, Value.float FloatKind.f64 4616189618054758400, Value.float FloatKind.f64 4616189618054758400, Value.float FloatKind.f64 0, Value.float FloatKind.f64 4616189618054758400] true none, AObj.row [Value.float FloatKind.f64 0, Value.float FloatKind.f64 0, Value.float FloatKind.f64 4616189618054758400, Value.float FloatKind.f64 0, Value.float FloatKind.f64 4616189618054758400, Value.float FloatKind.f64 4616189618054758400, Value.float FloatKind.f64 0, Value.float FloatKind.f64 4616189618054758400] true none, AObj.row [Value.float FloatKind.f64 0, Value.float FloatKind.f64 0, Value.float FloatKind.f64 4616189618054758400, Value.float FloatKind.f64 0, Value.float FloatKind.f64 4616189618054758400, Value.float FloatKind.f64 4616189618054758400, Value.float FloatKind.f64 0, Value.float FloatKind.f64 4616189618054758400] true none]) (by kernel_rfl) trivial rfl rfl
def kPlace_t : Value := (Value.bool true)
theorem kPlace_c  (σ : AHeap) : CallR Try.prog false 9 [] σ (kPlace_t ) σ := by
  unfold kPlace_t
  exact (kPlace_p0  σ)
theorem kPlace_v  : kPlace_t  = Go.Value.bool true := by
  unfold kPlace_t
  kernel_rfl
theorem kPlace_ok  (σ : AHeap) : CallR Try.prog false 9 [] σ (Go.Value.bool true) σ := by
  have h := kPlace_c  σ
  rw [kPlace_v] at h
  exact h
theorem kWorks_fok : fnOk (dL12) Try.f46 = true := by kernel_rfl
theorem kWorks_p0 (σ : AHeap) : CallR Try.prog false 46 [] σ (Value.bool true) σ := CallR.of_DO_pure (C := dL12) dL12_ok Try.func46 kWorks_fok (n := 100) (orc := []) (ps := []) (σ1 := [AObj.row [Value.float FloatKind.f64 4636737291354636288, Value.float FloatKind.f64 0] true none, AObj.row [Value.float FloatKind.f64 0, Value.float FloatKind.f64 0, Value.float FloatKind.f64 4616189618054758400, Value.float FloatKind.f64 0, Value.float FloatKind.f64 4616189618054758400, Value.float FloatKind.f64 4616189618054758400, Value.float FloatKind.f64 0, Value.float FloatKind.f64 4616189618054758400] true none, AObj.row [Value.float FloatKind.f64 0, Value.float FloatKind.f64 0, Value.float FloatKind.f64 4616189618054758400, Value.float FloatKind.f64 0, Value.float FloatKind.f64 4616189618054758400, Value.float FloatKind.f64 4616189618054758400, Value.float FloatKind.f64 0, Value.float FloatKind.f64 4616189618054758400] true none]) (by kernel_rfl) trivial rfl rfl
def kWorks_t : Value := (Value.bool true)
theorem kWorks_c  (σ : AHeap) : CallR Try.prog false 46 [] σ (kWorks_t ) σ := by
  unfold kWorks_t
  exact (kWorks_p0  σ)
theorem kWorks_v  : kWorks_t  = Go.Value.bool true := by
  unfold kWorks_t
  kernel_rfl
theorem kWorks_ok  (σ : AHeap) : CallR Try.prog false 46 [] σ (Go.Value.bool true) σ := by
  have h := kWorks_c  σ
  rw [kWorks_v] at h
  exact h
def sWorks23 : PureFn
  | [] => some (.bool true)
  | _ => none
theorem sWorks23_ok : IsPure Try.prog false 46 sWorks23 := by
  intro args v σ h
  unfold sWorks23 at h
  split at h
  · cases h; exact kWorks_c  σ
  · cases h
noncomputable def t13 : Tab := (t12.addP 46 sWorks23)
theorem t13_ok : t13.Ok Try.prog false := (Tab.Ok.addP t12_ok sWorks23_ok)
noncomputable def L13 : Lib := ⟨Try.prog, false, t13, [(55, Try.f55), (51, Try.f51)], [(58, false, Try.f58)]⟩
theorem L13_fp : ∀ e, e ∈ L13.pures → Try.prog.funcs[e.1]? = some e.2 := fs_cons Try.func55 (fs_cons Try.func51 (fs_nil))
theorem L13_fh : ∀ e, e ∈ L13.heaps → Try.prog.funcs[e.1]? = some e.2.2 := gs_cons Try.func58 (gs_nil)
theorem L13_p1 (gp : Nat → PureFn) (g : Nat → HeapFn) : (L13.pures.all fun e => fnOk (L13.mk' gp g) e.2) = true := by kernel_rfl
theorem L13_h1 (gp : Nat → PureFn) (g : Nat → HeapFn) : (L13.heaps.all fun e => fnOk (L13.mk' gp g) e.2.2 && (!e.2.1 || fnRo (L13.mk' gp g) e.2.2)) = true := by kernel_rfl
theorem L13_ok : L13.Ok := ⟨t13_ok, mixed, L13_fp, L13_fh, L13_p1, L13_h1⟩
noncomputable def dL13 : Cfg := L13.cfg 100 6
theorem dL13_ok : dL13.Ok := L13_ok.cfg 100 6

theorem gTurns_fok : fnOk (dL13) Try.f10 = true := by kernel_rfl
theorem gTurns_p0 (m : Nat) (b : Nat) (u : Nat) (v : Nat) (t : Nat) (x : Nat) (y : Nat) (n : Int) (σ : AHeap) (h0 : (gSameP_0 (wTo_0 m b) (wTo_1 m b) (rTo_0 m b) (rTo_1 m b)) = true) (h1 : (gSameF_0 (wFrom_0 x y) (rFrom_0 x y)) = true) (h2 : (gSameF_0 (rFrom_1 x y) (wFrom_1 x y)) = true) (h3 : (okSec b n) = true) (h4 : (okRSec b n) = true) (h5 : (gSameP_0 (wMoved_0 u v t x y) (wMoved_1 u v t x y) (rMoved_0 u v t x y) (rMoved_1 u v t x y)) = true) (h6 : (gSameP_0 (wBack_0 u v t x y) (wBack_1 u v t x y) (rBack_0 u v t x y) (rBack_1 u v t x y)) = true) (h7 : (wSector_0 b n == rSector_0 b n) = true) (h8 : (wSector_1 b n == rSector_1 b n) = true) : CallR Try.prog false 10 [.float .f64 m, .float .f64 b, .agg #[.float .f64 u, .float .f64 v, .float .f64 t], .agg #[.float .f64 x, .float .f64 y], .int .i64 n] σ (Value.bool true) σ := CallR.of_DO_pure (C := dL13) dL13_ok Try.func10 gTurns_fok (n := 100) (orc := [(52, Item.br true), (54, Item.br true), (56, Item.br true), (58, Item.br true), (61, Item.res (Value.bool !gSameF_0 (wFrom_0 x y) (rFrom_0 x y))), (64, Item.br true), (66, Item.br true), (68, Item.br true), (70, Item.br true), (73, Item.res (Value.bool !gSameF_0 (rFrom_1 x y) (wFrom_1 x y))), (74, Item.br false), (80, Item.res (Value.tuple { toList := [Value.int IntKind.i64 (wSector_0 b n), Value.int IntKind.i64 (wSector_1 b n)] })), (96, Item.res (Value.tuple { toList := [Value.int IntKind.i64 (rSector_0 b n), Value.int IntKind.i64 (rSector_1 b n)] })), (123, Item.br true), (125, Item.br true), (127, Item.br true), (129, Item.br true), (131, Item.br true), (133, Item.br true), (135, Item.br true), (138, Item.res (Value.bool (gSameP_0 (wBack_0 u v t x y) (wBack_1 u v t x y) (rBack_0 u v t x y) (rBack_1 u v t x y)))), (141, Item.br true), (143, Item.br true), (145, Item.br true), (148, Item.res (Value.bool (wSector_0 b n == rSector_0 b n))), (151, Item.br true), (153, Item.br true), (155, Item.br true), (158, Item.res (Value.bool (wSector_1 b n == rSector_1 b n))), (161, Item.br true), (164, Item.res (Value.bool true))]) (ps := [(bP ((!gSameP_0 (wTo_0 m b) (wTo_1 m b) (rTo_0 m b) (rTo_1 m b)) == false) true), (bP ((!gSameP_0 (wTo_0 m b) (wTo_1 m b) (rTo_0 m b) (rTo_1 m b)) == false) true), (bP ((!gSameP_0 (wTo_0 m b) (wTo_1 m b) (rTo_0 m b) (rTo_1 m b)) == false) true), (bP ((!gSameP_0 (wTo_0 m b) (wTo_1 m b) (rTo_0 m b) (rTo_1 m b)) == false) true), (pP (some (Value.bool true)) (some (Value.bool !gSameF_0 (wFrom_0 x y) (rFrom_0 x y))) ([AObj.row [Value.float FloatKind.f64 u, Value.float FloatKind.f64 v, Value.float FloatKind.f64 t] true none, AObj.row [Value.float FloatKind.f64 x, Value.float FloatKind.f64 y] true none]) (!gSameP_0 (wTo_0 m b) (wTo_1 m b) (rTo_0 m b) (rTo_1 m b)) (Value.bool !gSameF_0 (wFrom_0 x y) (rFrom_0 x y))), (bP ((!gSameF_0 (wFrom_0 x y) (rFrom_0 x y)) == false) true), (bP ((!gSameF_0 (wFrom_0 x y) (rFrom_0 x y)) == false) true), (bP ((!gSameF_0 (wFrom_0 x y) (rFrom_0 x y)) == false) true), (bP ((!gSameF_0 (wFrom_0 x y) (rFrom_0 x y)) == false) true), (pP (some (Value.bool true)) (some (Value.bool !gSameF_0 (rFrom_1 x y) (wFrom_1 x y))) ([AObj.row [Value.float FloatKind.f64 u, Value.float FloatKind.f64 v, Value.float FloatKind.f64 t] true none, AObj.row [Value.float FloatKind.f64 x, Value.float FloatKind.f64 y] true none]) (!gSameF_0 (wFrom_0 x y) (rFrom_0 x y)) (Value.bool !gSameF_0 (rFrom_1 x y) (wFrom_1 x y))), (bP (!gSameF_0 (rFrom_1 x y) (wFrom_1 x y)) false), (gP (Value.tuple { toList := [Value.int IntKind.i64 (wSector_0 b n), Value.int IntKind.i64 (wSector_1 b n)] }) ([AObj.row [Value.float FloatKind.f64 u, Value.float FloatKind.f64 v, Value.float FloatKind.f64 t] true none, AObj.row [Value.float FloatKind.f64 x, Value.float FloatKind.f64 y] true none]) (okSec b n)), (gP (Value.tuple { toList := [Value.int IntKind.i64 (rSector_0 b n), Value.int IntKind.i64 (rSector_1 b n)] }) ([AObj.row [Value.float FloatKind.f64 u, Value.float FloatKind.f64 v, Value.float FloatKind.f64 t] true none, AObj.row [Value.float FloatKind.f64 x, Value.float FloatKind.f64 y] true none]) (okRSec b n)), (bP (gSameP_0 (wMoved_0 u v t x y) (wMoved_1 u v t x y) (rMoved_0 u v t x y) (rMoved_1 u v t x y) == true) true), (bP (gSameP_0 (wMoved_0 u v t x y) (wMoved_1 u v t x y) (rMoved_0 u v t x y) (rMoved_1 u v t x y) == true) true), (bP (gSameP_0 (wMoved_0 u v t x y) (wMoved_1 u v t x y) (rMoved_0 u v t x y) (rMoved_1 u v t x y) == true) true), (bP (gSameP_0 (wMoved_0 u v t x y) (wMoved_1 u v t x y) (rMoved_0 u v t x y) (rMoved_1 u v t x y) == true) true), (bP (gSameP_0 (wMoved_0 u v t x y) (wMoved_1 u v t x y) (rMoved_0 u v t x y) (rMoved_1 u v t x y) == true) true), (bP (gSameP_0 (wMoved_0 u v t x y) (wMoved_1 u v t x y) (rMoved_0 u v t x y) (rMoved_1 u v t x y) == true) true), (bP (gSameP_0 (wMoved_0 u v t x y) (wMoved_1 u v t x y) (rMoved_0 u v t x y) (rMoved_1 u v t x y) == true) true), (pP (some (Value.bool (gSameP_0 (wBack_0 u v t x y) (wBack_1 u v t x y) (rBack_0 u v t x y) (rBack_1 u v t x y)))) (some (Value.bool false)) ([AObj.row [Value.float FloatKind.f64 u, Value.float FloatKind.f64 v, Value.float FloatKind.f64 t] true none, AObj.row [Value.float FloatKind.f64 x, Value.float FloatKind.f64 y] true none]) (gSameP_0 (wMoved_0 u v t x y) (wMoved_1 u v t x y) (rMoved_0 u v t x y) (rMoved_1 u v t x y)) (Value.bool (gSameP_0 (wBack_0 u v t x y) (wBack_1 u v t x y) (rBack_0 u v t x y) (rBack_1 u v t x y)))), (bP (gSameP_0 (wBack_0 u v t x y) (wBack_1 u v t x y) (rBack_0 u v t x y) (rBack_1 u v t x y) == true) true), (bP (gSameP_0 (wBack_0 u v t x y) (wBack_1 u v t x y) (rBack_0 u v t x y) (rBack_1 u v t x y) == true) true), (bP (gSameP_0 (wBack_0 u v t x y) (wBack_1 u v t x y) (rBack_0 u v t x y) (rBack_1 u v t x y) == true) true), (pP (some (Value.bool (wSector_0 b n == rSector_0 b n))) (some (Value.bool false)) ([AObj.row [Value.float FloatKind.f64 u, Value.float FloatKind.f64 v, Value.float FloatKind.f64 t] true none, AObj.row [Value.float FloatKind.f64 x, Value.float FloatKind.f64 y] true none]) (gSameP_0 (wBack_0 u v t x y) (wBack_1 u v t x y) (rBack_0 u v t x y) (rBack_1 u v t x y)) (Value.bool (wSector_0 b n == rSector_0 b n))), (bP ((wSector_0 b n == rSector_0 b n) == true) true), (bP ((wSector_0 b n == rSector_0 b n) == true) true), (bP ((wSector_0 b n == rSector_0 b n) == true) true), (pP (some (Value.bool (wSector_1 b n == rSector_1 b n))) (some (Value.bool false)) ([AObj.row [Value.float FloatKind.f64 u, Value.float FloatKind.f64 v, Value.float FloatKind.f64 t] true none, AObj.row [Value.float FloatKind.f64 x, Value.float FloatKind.f64 y] true none]) (wSector_0 b n == rSector_0 b n) (Value.bool (wSector_1 b n == rSector_1 b n))), (bP ((wSector_1 b n == rSector_1 b n) == true) true), (pP (some (Value.bool true)) (some (Value.bool false)) ([AObj.row [Value.float FloatKind.f64 u, Value.float FloatKind.f64 v, Value.float FloatKind.f64 t] true none, AObj.row [Value.float FloatKind.f64 x, Value.float FloatKind.f64 y] true none]) (wSector_1 b n == rSector_1 b n) (Value.bool true))]) (σ1 := [AObj.row [Value.float FloatKind.f64 u, Value.float FloatKind.f64 v, Value.float FloatKind.f64 t] true none, AObj.row [Value.float FloatKind.f64 x, Value.float FloatKind.f64 y] true none]) (by kernel_rfl) ⟨bP_of (fun x => (!x) == false) h0, ⟨bP_of (fun x => (!x) == false) h0, ⟨bP_of (fun x => (!x) == false) h0, ⟨bP_of (fun x => (!x) == false) h0, ⟨pP_f _ _ _ (congrArg (fun bb => (!bb)) h0), ⟨bP_of (fun x => (!x) == false) h1, ⟨bP_of (fun x => (!x) == false) h1, ⟨bP_of (fun x => (!x) == false) h1, ⟨bP_of (fun x => (!x) == false) h1, ⟨pP_f _ _ _ (congrArg (fun bb => (!bb)) h1), ⟨bP_of (fun x => !x) h2, ⟨gP_true _ _ h3, ⟨gP_true _ _ h4, ⟨bP_of (fun x => x == true) h5, ⟨bP_of (fun x => x == true) h5, ⟨bP_of (fun x => x == true) h5, ⟨bP_of (fun x => x == true) h5, ⟨bP_of (fun x => x == true) h5, ⟨bP_of (fun x => x == true) h5, ⟨bP_of (fun x => x == true) h5, ⟨pP_t _ _ _ (congrArg (fun bb => (bb)) h5), ⟨bP_of (fun x => x == true) h6, ⟨bP_of (fun x => x == true) h6, ⟨bP_of (fun x => x == true) h6, ⟨pP_t _ _ _ (congrArg (fun bb => (bb)) h6), ⟨bP_of (fun x => x == true) h7, ⟨bP_of (fun x => x == true) h7, ⟨bP_of (fun x => x == true) h7, ⟨pP_t _ _ _ (congrArg (fun bb => (bb)) h7), ⟨bP_of (fun x => x == true) h8, ⟨pP_t _ _ _ (congrArg (fun bb => (bb)) h8), trivial⟩⟩⟩⟩⟩⟩⟩⟩⟩⟩⟩⟩⟩⟩⟩⟩⟩⟩⟩⟩⟩⟩⟩⟩⟩⟩⟩⟩⟩⟩⟩ rfl rfl
theorem gTurns_p1 (m : Nat) (b : Nat) (u : Nat) (v : Nat) (t : Nat) (x : Nat) (y : Nat) (n : Int) (σ : AHeap) (h0 : (gSameP_0 (wTo_0 m b) (wTo_1 m b) (rTo_0 m b) (rTo_1 m b)) = true) (h1 : (gSameF_0 (wFrom_0 x y) (rFrom_0 x y)) = true) (h2 : (gSameF_0 (rFrom_1 x y) (wFrom_1 x y)) = true) (h3 : (okSec b n) = true) (h4 : (okRSec b n) = true) (h5 : (gSameP_0 (wMoved_0 u v t x y) (wMoved_1 u v t x y) (rMoved_0 u v t x y) (rMoved_1 u v t x y)) = true) (h6 : (gSameP_0 (wBack_0 u v t x y) (wBack_1 u v t x y) (rBack_0 u v t x y) (rBack_1 u v t x y)) = true) (h7 : (wSector_0 b n == rSector_0 b n) = true) (h8 : (wSector_1 b n == rSector_1 b n) = false) : CallR Try.prog false 10 [.float .f64 m, .float .f64 b, .agg #[.float .f64 u, .float .f64 v, .float .f64 t], .agg #[.float .f64 x, .float .f64 y], .int .i64 n] σ (Value.bool false) σ := CallR.of_DO_pure (C := dL13) dL13_ok Try.func10 gTurns_fok (n := 100) (orc := [(52, Item.br true), (54, Item.br true), (56, Item.br true), (58, Item.br true), (61, Item.res (Value.bool !gSameF_0 (wFrom_0 x y) (rFrom_0 x y))), (64, Item.br true), (66, Item.br true), (68, Item.br true), (70, Item.br true), (73, Item.res (Value.bool !gSameF_0 (rFrom_1 x y) (wFrom_1 x y))), (74, Item.br false), (80, Item.res (Value.tuple { toList := [Value.int IntKind.i64 (wSector_0 b n), Value.int IntKind.i64 (wSector_1 b n)] })), (96, Item.res (Value.tuple { toList := [Value.int IntKind.i64 (rSector_0 b n), Value.int IntKind.i64 (rSector_1 b n)] })), (123, Item.br true), (125, Item.br true), (127, Item.br true), (129, Item.br true), (131, Item.br true), (133, Item.br true), (135, Item.br true), (138, Item.res (Value.bool (gSameP_0 (wBack_0 u v t x y) (wBack_1 u v t x y) (rBack_0 u v t x y) (rBack_1 u v t x y)))), (141, Item.br true), (143, Item.br true), (145, Item.br true), (148, Item.res (Value.bool (wSector_0 b n == rSector_0 b n))), (151, Item.br true), (153, Item.br true), (155, Item.br true), (158, Item.res (Value.bool (wSector_1 b n == rSector_1 b n))), (161, Item.br false), (164, Item.res (Value.bool false))]) (ps := [(bP ((!gSameP_0 (wTo_0 m b) (wTo_1 m b) (rTo_0 m b) (rTo_1 m b)) == false) true), (bP ((!gSameP_0 (wTo_0 m b) (wTo_1 m b) (rTo_0 m b) (rTo_1 m b)) == false) true), (bP ((!gSameP_0 (wTo_0 m b) (wTo_1 m b) (rTo_0 m b) (rTo_1 m b)) == false) true), (bP ((!gSameP_0 (wTo_0 m b) (wTo_1 m b) (rTo_0 m b) (rTo_1 m b)) == false) true), (pP (some (Value.bool true)) (some (Value.bool !gSameF_0 (wFrom_0 x y) (rFrom_0 x y))) ([AObj.row [Value.float FloatKind.f64 u, Value.float FloatKind.f64 v, Value.float FloatKind.f64 t] true none, AObj.row [Value.float FloatKind.f64 x, Value.float FloatKind.f64 y] true none]) (!gSameP_0 (wTo_0 m b) (wTo_1 m b) (rTo_0 m b) (rTo_1 m b)) (Value.bool !gSameF_0 (wFrom_0 x y) (rFrom_0 x y))), (bP ((!gSameF_0 (wFrom_0 x y) (rFrom_0 x y)) == false) true), (bP ((!gSameF_0 (wFrom_0 x y) (rFrom_0 x y)) == false) true), (bP ((!gSameF_0 (wFrom_0 x y) (rFrom_0 x y)) == false) true), (bP ((!gSameF_0 (wFrom_0 x y) (rFrom_0 x y)) == false) true), (pP (some (Value.bool true)) (some (Value.bool !gSameF_0 (rFrom_1 x y) (wFrom_1 x y))) ([AObj.row [Value.float FloatKind.f64 u, Value.float FloatKind.f64 v, Value.float FloatKind.f64 t] true none, AObj.row [Value.float FloatKind.f64 x, Value.float FloatKind.f64 y] true none]) (!gSameF_0 (wFrom_0 x y) (rFrom_0 x y)) (Value.bool !gSameF_0 (rFrom_1 x y) (wFrom_1 x y))), (bP (!gSameF_0 (rFrom_1 x y) (wFrom_1 x y)) false), (gP (Value.tuple { toList := [Value.int IntKind.i64 (wSector_0 b n), Value.int IntKind.i64 (wSector_1 b n)] }) ([AObj.row [Value.float FloatKind.f64 u, Value.float FloatKind.f64 v, Value.float FloatKind.f64 t] true none, AObj.row [Value.float FloatKind.f64 x, Value.float FloatKind.f64 y] true none]) (okSec b n)), (gP (Value.tuple { toList := [Value.int IntKind.i64 (rSector_0 b n), Value.int IntKind.i64 (rSector_1 b n)] }) ([AObj.row [Value.float FloatKind.f64 u, Value.float FloatKind.f64 v, Value.float FloatKind.f64 t] true none, AObj.row [Value.float FloatKind.f64 x, Value.float FloatKind.f64 y] true none]) (okRSec b n)), (bP (gSameP_0 (wMoved_0 u v t x y) (wMoved_1 u v t x y) (rMoved_0 u v t x y) (rMoved_1 u v t x y) == true) true), (bP (gSameP_0 (wMoved_0 u v t x y) (wMoved_1 u v t x y) (rMoved_0 u v t x y) (rMoved_1 u v t x y) == true) true), (bP (gSameP_0 (wMoved_0 u v t x y) (wMoved_1 u v t x y) (rMoved_0 u v t x y) (rMoved_1 u v t x y) == true) true), (bP (gSameP_0 (wMoved_0 u v t x y) (wMoved_1 u v t x y) (rMoved_0 u v t x y) (rMoved_1 u v t x y) == true) true), (bP (gSameP_0 (wMoved_0 u v t x y) (wMoved_1 u v t x y) (rMoved_0 u v t x y) (rMoved_1 u v t x y) == true) true), (bP (gSameP_0 (wMoved_0 u v t x y) (wMoved_1 u v t x y) (rMoved_0 u v t x y) (rMoved_1 u v t x y) == true) true), (bP (gSameP_0 (wMoved_0 u v t x y) (wMoved_1 u v t x y) (rMoved_0 u v t x y) (rMoved_1 u v t x y) == true) true), (pP (some (Value.bool (gSameP_0 (wBack_0 u v t x y) (wBack_1 u v t x y) (rBack_0 u v t x y) (rBack_1 u v t x y)))) (some (Value.bool false)) ([AObj.row [Value.float FloatKind.f64 u, Value.float FloatKind.f64 v, Value.float FloatKind.f64 t] true none, AObj.row [Value.float FloatKind.f64 x, Value.float FloatKind.f64 y] true none]) (gSameP_0 (wMoved_0 u v t x y) (wMoved_1 u v t x y) (rMoved_0 u v t x y) (rMoved_1 u v t x y)) (Value.bool (gSameP_0 (wBack_0 u v t x y) (wBack_1 u v t x y) (rBack_0 u v t x y) (rBack_1 u v t x y)))), (bP (gSameP_0 (wBack_0 u v t x y) (wBack_1 u v t x y) (rBack_0 u v t x y) (rBack_1 u v t x y) == true) true), (bP (gSameP_0 (wBack_0 u v t x y) (wBack_1 u v t x y) (rBack_0 u v t x y) (rBack_1 u v t x y) == true) true), (bP (gSameP_0 (wBack_0 u v t x y) (wBack_1 u v t x y) (rBack_0 u v t x y) (rBack_1 u v t x y) == true) true), (pP (some (Value.bool (wSector_0 b n == rSector_0 b n))) (some (Value.bool false)) ([AObj.row [Value.float FloatKind.f64 u, Value.float FloatKind.f64 v, Value.float FloatKind.f64 t] true none, AObj.row [Value.float FloatKind.f64 x, Value.float FloatKind.f64 y] true none]) (gSameP_0 (wBack_0 u v t x y) (wBack_1 u v t x y) (rBack_0 u v t x y) (rBack_1 u v t x y)) (Value.bool (wSector_0 b n == rSector_0 b n))), (bP ((wSector_0 b n == rSector_0 b n) == true) true), (bP ((wSector_0 b n == rSector_0 b n) == true) true), (bP ((wSector_0 b n == rSector_0 b n) == true) true), (pP (some (Value.bool (wSector_1 b n == rSector_1 b n))) (some (Value.bool false)) ([AObj.row [Value.float FloatKind.f64 u, Value.float FloatKind.f64 v, Value.float FloatKind.f64 t] true none, AObj.row [Value.float FloatKind.f64 x, Value.float FloatKind.f64 y] true none]) (wSector_0 b n == rSector_0 b n) (Value.bool (wSector_1 b n == rSector_1 b n))), (bP ((wSector_1 b n == rSector_1 b n) == true) false), (pP (none) (some (Value.bool false)) ([AObj.row [Value.float FloatKind.f64 u, Value.float FloatKind.f64 v, Value.float FloatKind.f64 t] true none, AObj.row [Value.float FloatKind.f64 x, Value.float FloatKind.f64 y] true none]) (wSector_1 b n == rSector_1 b n) (Value.bool false))]) (σ1 := [AObj.row [Value.float FloatKind.f64 u, Value.float FloatKind.f64 v, Value.float FloatKind.f64 t] true none, AObj.row [Value.float FloatKind.f64 x, Value.float FloatKind.f64 y] true none]) (by kernel_rfl) ⟨bP_of (fun x => (!x) == false) h0, ⟨bP_of (fun x => (!x) == false) h0, ⟨bP_of (fun x => (!x) == false) h0, ⟨bP_of (fun x => (!x) == false) h0, ⟨pP_f _ _ _ (congrArg (fun bb => (!bb)) h0), ⟨bP_of (fun x => (!x) == false) h1, ⟨bP_of (fun x => (!x) == false) h1, ⟨bP_of (fun x => (!x) == false) h1, ⟨bP_of (fun x => (!x) == false) h1, ⟨pP_f _ _ _ (congrArg (fun bb => (!bb)) h1), ⟨bP_of (fun x => !x) h2, ⟨gP_true _ _ h3, ⟨gP_true _ _ h4, ⟨bP_of (fun x => x == true) h5, ⟨bP_of (fun x => x == true) h5, ⟨bP_of (fun x => x == true) h5, ⟨bP_of (fun x => x == true) h5, ⟨bP_of (fun x => x == true) h5, ⟨bP_of (fun x => x == true) h5, ⟨bP_of (fun x => x == true) h5, ⟨pP_t _ _ _ (congrArg (fun bb => (bb)) h5), ⟨bP_of (fun x => x == true) h6, ⟨bP_of (fun x => x == true) h6, ⟨bP_of (fun x => x == true) h6, ⟨pP_t _ _ _ (congrArg (fun bb => (bb)) h6), ⟨bP_of (fun x => x == true) h7, ⟨bP_of (fun x => x == true) h7, ⟨bP_of (fun x => x == true) h7, ⟨pP_t _ _ _ (congrArg (fun bb => (bb)) h7), ⟨bP_of (fun x => x == true) h8, ⟨pP_f _ _ _ (congrArg (fun bb => (bb)) h8), trivial⟩⟩⟩⟩⟩⟩⟩⟩⟩⟩⟩⟩⟩⟩⟩⟩⟩⟩⟩⟩⟩⟩⟩⟩⟩⟩⟩⟩⟩⟩⟩ rfl rfl
theorem gTurns_p2 (m : Nat) (b : Nat) (u : Nat) (v : Nat) (t : Nat) (x : Nat) (y : Nat) (n : Int) (σ : AHeap) (h0 : (gSameP_0 (wTo_0 m b) (wTo_1 m b) (rTo_0 m b) (rTo_1 m b)) = true) (h1 : (gSameF_0 (wFrom_0 x y) (rFrom_0 x y)) = true) (h2 : (gSameF_0 (rFrom_1 x y) (wFrom_1 x y)) = true) (h3 : (okSec b n) = true) (h4 : (okRSec b n) = true) (h5 : (gSameP_0 (wMoved_0 u v t x y) (wMoved_1 u v t x y) (rMoved_0 u v t x y) (rMoved_1 u v t x y)) = true) (h6 : (gSameP_0 (wBack_0 u v t x y) (wBack_1 u v t x y) (rBack_0 u v t x y) (rBack_1 u v t x y)) = true) (h7 : (wSector_0 b n == rSector_0 b n) = false) : CallR Try.prog false 10 [.float .f64 m, .float .f64 b, .agg #[.float .f64 u, .float .f64 v, .float .f64 t], .agg #[.float .f64 x, .float .f64 y], .int .i64 n] σ (Value.bool false) σ := CallR.of_DO_pure (C := dL13) dL13_ok Try.func10 gTurns_fok (n := 100) (orc := [(52, Item.br true), (54, Item.br true), (56, Item.br true), (58, Item.br true), (61, Item.res (Value.bool !gSameF_0 (wFrom_0 x y) (rFrom_0 x y))), (64, Item.br true), (66, Item.br true), (68, Item.br true), (70, Item.br true), (73, Item.res (Value.bool !gSameF_0 (rFrom_1 x y) (wFrom_1 x y))), (74, Item.br false), (80, Item.res (Value.tuple { toList := [Value.int IntKind.i64 (wSector_0 b n), Value.int IntKind.i64 (wSector_1 b n)] })), (96, Item.res (Value.tuple { toList := [Value.int IntKind.i64 (rSector_0 b n), Value.int IntKind.i64 (rSector_1 b n)] })), (123, Item.br true), (125, Item.br true), (127, Item.br true), (129, Item.br true), (131, Item.br true), (133, Item.br true), (135, Item.br true), (138, Item.res (Value.bool (gSameP_0 (wBack_0 u v t x y) (wBack_1 u v t x y) (rBack_0 u v t x y) (rBack_1 u v t x y)))), (141, Item.br true), (143, Item.br true), (145, Item.br true), (148, Item.res (Value.bool (wSector_0 b n == rSector_0 b n))), (151, Item.br false), (153, Item.br false), (155, Item.br false), (158, Item.res (Value.bool false))]) (ps := [(bP ((!gSameP_0 (wTo_0 m b) (wTo_1 m b) (rTo_0 m b) (rTo_1 m b)) == false) true), (bP ((!gSameP_0 (wTo_0 m b) (wTo_1 m b) (rTo_0 m b) (rTo_1 m b)) == false) true), (bP ((!gSameP_0 (wTo_0 m b) (wTo_1 m b) (rTo_0 m b) (rTo_1 m b)) == false) true), (bP ((!gSameP_0 (wTo_0 m b) (wTo_1 m b) (rTo_0 m b) (rTo_1 m b)) == false) true), (pP (some (Value.bool true)) (some (Value.bool !gSameF_0 (wFrom_0 x y) (rFrom_0 x y))) ([AObj.row [Value.float FloatKind.f64 u, Value.float FloatKind.f64 v, Value.float FloatKind.f64 t] true none, AObj.row [Value.float FloatKind.f64 x, Value.float FloatKind.f64 y] true none]) (!gSameP_0 (wTo_0 m b) (wTo_1 m b) (rTo_0 m b) (rTo_1 m b)) (Value.bool !gSameF_0 (wFrom_0 x y) (rFrom_0 x y))), (bP ((!gSameF_0 (wFrom_0 x y) (rFrom_0 x y)) == false) true), (bP ((!gSameF_0 (wFrom_0 x y) (rFrom_0 x y)) == false) true), (bP ((!gSameF_0 (wFrom_0 x y) (rFrom_0 x y)) == false) true), (bP ((!gSameF_0 (wFrom_0 x y) (rFrom_0 x y)) == false) true), (pP (some (Value.bool true)) (some (Value.bool !gSameF_0 (rFrom_1 x y) (wFrom_1 x y))) ([AObj.row [Value.float FloatKind.f64 u, Value.float FloatKind.f64 v, Value.float FloatKind.f64 t] true none, AObj.row [Value.float FloatKind.f64 x, Value.float FloatKind.f64 y] true none]) (!gSameF_0 (wFrom_0 x y) (rFrom_0 x y)) (Value.bool !gSameF_0 (rFrom_1 x y) (wFrom_1 x y))), (bP (!gSameF_0 (rFrom_1 x y) (wFrom_1 x y)) false), (gP (Value.tuple { toList := [Value.int IntKind.i64 (wSector_0 b n), Value.int IntKind.i64 (wSector_1 b n)] }) ([AObj.row [Value.float FloatKind.f64 u, Value.float FloatKind.f64 v, Value.float FloatKind.f64 t] true none, AObj.row [Value.float FloatKind.f64 x, Value.float FloatKind.f64 y] true none]) (okSec b n)), (gP (Value.tuple { toList := [Value.int IntKind.i64 (rSector_0 b n), Value.int IntKind.i64 (rSector_1 b n)] }) ([AObj.row [Value.float FloatKind.f64 u, Value.float FloatKind.f64 v, Value.float FloatKind.f64 t] true none, AObj.row [Value.float FloatKind.f64 x, Value.float FloatKind.f64 y] true none]) (okRSec b n)), (bP (gSameP_0 (wMoved_0 u v t x y) (wMoved_1 u v t x y) (rMoved_0 u v t x y) (rMoved_1 u v t x y) == true) true), (bP (gSameP_0 (wMoved_0 u v t x y) (wMoved_1 u v t x y) (rMoved_0 u v t x y) (rMoved_1 u v t x y) == true) true), (bP (gSameP_0 (wMoved_0 u v t x y) (wMoved_1 u v t x y) (rMoved_0 u v t x y) (rMoved_1 u v t x y) == true) true), (bP (gSameP_0 (wMoved_0 u v t x y) (wMoved_1 u v t x y) (rMoved_0 u v t x y) (rMoved_1 u v t x y) == true) true), (bP (gSameP_0 (wMoved_0 u v t x y) (wMoved_1 u v t x y) (rMoved_0 u v t x y) (rMoved_1 u v t x y) == true) true), (bP (gSameP_0 (wMoved_0 u v t x y) (wMoved_1 u v t x y) (rMoved_0 u v t x y) (rMoved_1 u v t x y) == true) true), (bP (gSameP_0 (wMoved_0 u v t x y) (wMoved_1 u v t x y) (rMoved_0 u v t x y) (rMoved_1 u v t x y) == true) true), (pP (some (Value.bool (gSameP_0 (wBack_0 u v t x y) (wBack_1 u v t x y) (rBack_0 u v t x y) (rBack_1 u v t x y)))) (some (Value.bool false)) ([AObj.row [Value.float FloatKind.f64 u, Value.float FloatKind.f64 v, Value.float FloatKind.f64 t] true none, AObj.row [Value.float FloatKind.f64 x, Value.float FloatKind.f64 y] true none]) (gSameP_0 (wMoved_0 u v t x y) (wMoved_1 u v t x y) (rMoved_0 u v t x y) (rMoved_1 u v t x y)) (Value.bool (gSameP_0 (wBack_0 u v t x y) (wBack_1 u v t x y) (rBack_0 u v t x y) (rBack_1 u v t x y)))), (bP (gSameP_0 (wBack_0 u v t x y) (wBack_1 u v t x y) (rBack_0 u v t x y) (rBack_1 u v t x y) == true) true), (bP (gSameP_0 (wBack_0 u v t x y) (wBack_1 u v t x y) (rBack_0 u v t x y) (rBack_1 u v t x y) == true) true), (bP (gSameP_0 (wBack_0 u v t x y) (wBack_1 u v t x y) (rBack_0 u v t x y) (rBack_1 u v t x y) == true) true), (pP (some (Value.bool (wSector_0 b n == rSector_0 b n))) (some (Value.bool false)) ([AObj.row [Value.float FloatKind.f64 u, Value.float FloatKind.f64 v, Value.float FloatKind.f64 t] true none, AObj.row [Value.float FloatKind.f64 x, Value.float FloatKind.f64 y] true none]) (gSameP_0 (wBack_0 u v t x y) (wBack_1 u v t x y) (rBack_0 u v t x y) (rBack_1 u v t x y)) (Value.bool (wSector_0 b n == rSector_0 b n))), (bP ((wSector_0 b n == rSector_0 b n) == true) false), (bP ((wSector_0 b n == rSector_0 b n) == true) false), (bP ((wSector_0 b n == rSector_0 b n) == true) false), (pP (none) (some (Value.bool false)) ([AObj.row [Value.float FloatKind.f64 u, Value.float FloatKind.f64 v, Value.float FloatKind.f64 t] true none, AObj.row [Value.float FloatKind.f64 x, Value.float FloatKind.f64 y] true none]) (wSector_0 b n == rSector_0 b n) (Value.bool false))]) (σ1 := [AObj.row [Value.float FloatKind.f64 u, Value.float FloatKind.f64 v, Value.float FloatKind.f64 t] true none, AObj.row [Value.float FloatKind.f64 x, Value.float FloatKind.f64 y] true none]) (by kernel_rfl) ⟨bP_of (fun x => (!x) == false) h0, ⟨bP_of (fun x => (!x) == false) h0, ⟨bP_of (fun x => (!x) == false) h0, ⟨bP_of (fun x => (!x) == false) h0, ⟨pP_f _ _ _ (congrArg (fun bb => (!bb)) h0), ⟨bP_of (fun x => (!x) == false) h1, ⟨bP_of (fun x => (!x) == false) h1, ⟨bP_of (fun x => (!x) == false) h1, ⟨bP_of (fun x => (!x) == false) h1, ⟨pP_f _ _ _ (congrArg (fun bb => (!bb)) h1), ⟨bP_of (fun x => !x) h2, ⟨gP_true _ _ h3, ⟨gP_true _ _ h4, ⟨bP_of (fun x => x == true) h5, ⟨bP_of (fun x => x == true) h5, ⟨bP_of (fun x => x == true) h5, ⟨bP_of (fun x => x == true) h5, ⟨bP_of (fun x => x == true) h5, ⟨bP_of (fun x => x == true) h5, ⟨bP_of (fun x => x == true) h5, ⟨pP_t _ _ _ (congrArg (fun bb => (bb)) h5), ⟨bP_of (fun x => x == true) h6, ⟨bP_of (fun x => x == true) h6, ⟨bP_of (fun x => x == true) h6, ⟨pP_t _ _ _ (congrArg (fun bb => (bb)) h6), ⟨bP_of (fun x => x == true) h7, ⟨bP_of (fun x => x == true) h7, ⟨bP_of (fun x => x == true) h7, ⟨pP_f _ _ _ (congrArg (fun bb => (bb)) h7), trivial⟩⟩⟩⟩⟩⟩⟩⟩⟩⟩⟩⟩⟩⟩⟩⟩⟩⟩⟩⟩⟩⟩⟩⟩⟩⟩⟩⟩⟩ rfl rfl
theorem gTurns_p3 (m : Nat) (b : Nat) (u : Nat) (v : Nat) (t : Nat) (x : Nat) (y : Nat) (n : Int) (σ : AHeap) (h0 : (gSameP_0 (wTo_0 m b) (wTo_1 m b) (rTo_0 m b) (rTo_1 m b)) = true) (h1 : (gSameF_0 (wFrom_0 x y) (rFrom_0 x y)) = true) (h2 : (gSameF_0 (rFrom_1 x y) (wFrom_1 x y)) = true) (h3 : (okSec b n) = true) (h4 : (okRSec b n) = true) (h5 : (gSameP_0 (wMoved_0 u v t x y) (wMoved_1 u v t x y) (rMoved_0 u v t x y) (rMoved_1 u v t x y)) = true) (h6 : (gSameP_0 (wBack_0 u v t x y) (wBack_1 u v t x y) (rBack_0 u v t x y) (rBack_1 u v t x y)) = false) : CallR Try.prog false 10 [.float .f64 m, .float .f64 b, .agg #[.float .f64 u, .float .f64 v, .float .f64 t], .agg #[.float .f64 x, .float .f64 y], .int .i64 n] σ (Value.bool false) σ := CallR.of_DO_pure (C := dL13) dL13_ok Try.func10 gTurns_fok (n := 100) (orc := [(52, Item.br true), (54, Item.br true), (56, Item.br true), (58, Item.br true), (61, Item.res (Value.bool !gSameF_0 (wFrom_0 x y) (rFrom_0 x y))), (64, Item.br true), (66, Item.br true), (68, Item.br true), (70, Item.br true), (73, Item.res (Value.bool !gSameF_0 (rFrom_1 x y) (wFrom_1 x y))), (74, Item.br false), (80, Item.res (Value.tuple { toList := [Value.int IntKind.i64 (wSector_0 b n), Value.int IntKind.i64 (wSector_1 b n)] })), (96, Item.res (Value.tuple { toList := [Value.int IntKind.i64 (rSector_0 b n), Value.int IntKind.i64 (rSector_1 b n)] })), (123, Item.br true), (125, Item.br true), (127, Item.br true), (129, Item.br true), (131, Item.br true), (133, Item.br true), (135, Item.br true), (138, Item.res (Value.bool (gSameP_0 (wBack_0 u v t x y) (wBack_1 u v t x y) (rBack_0 u v t x y) (rBack_1 u v t x y)))), (141, Item.br false), (143, Item.br false), (145, Item.br false), (148, Item.res (Value.bool false))]) (ps := [(bP ((!gSameP_0 (wTo_0 m b) (wTo_1 m b) (rTo_0 m b) (rTo_1 m b)) == false) true), (bP ((!gSameP_0 (wTo_0 m b) (wTo_1 m b) (rTo_0 m b) (rTo_1 m b)) == false) true), (bP ((!gSameP_0 (wTo_0 m b) (wTo_1 m b) (rTo_0 m b) (rTo_1 m b)) == false) true), (bP ((!gSameP_0 (wTo_0 m b) (wTo_1 m b) (rTo_0 m b) (rTo_1 m b)) == false) true), (pP (some (Value.bool true)) (some (Value.bool !gSameF_0 (wFrom_0 x y) (rFrom_0 x y))) ([AObj.row [Value.float FloatKind.f64 u, Value.float FloatKind.f64 v, Value.float FloatKind.f64 t] true none, AObj.row [Value.float FloatKind.f64 x, Value.float FloatKind.f64 y] true none]) (!gSameP_0 (wTo_0 m b) (wTo_1 m b) (rTo_0 m b) (rTo_1 m b)) (Value.bool !gSameF_0 (wFrom_0 x y) (rFrom_0 x y))), (bP ((!gSameF_0 (wFrom_0 x y) (rFrom_0 x y)) == false) true), (bP ((!gSameF_0 (wFrom_0 x y) (rFrom_0 x y)) == false) true), (bP ((!gSameF_0 (wFrom_0 x y) (rFrom_0 x y)) == false) true), (bP ((!gSameF_0 (wFrom_0 x y) (rFrom_0 x y)) == false) true), (pP (some (Value.bool true)) (some (Value.bool !gSameF_0 (rFrom_1 x y) (wFrom_1 x y))) ([AObj.row [Value.float FloatKind.f64 u, Value.float FloatKind.f64 v, Value.float FloatKind.f64 t] true none, AObj.row [Value.float FloatKind.f64 x, Value.float FloatKind.f64 y] true none]) (!gSameF_0 (wFrom_0 x y) (rFrom_0 x y)) (Value.bool !gSameF_0 (rFrom_1 x y) (wFrom_1 x y))), (bP (!gSameF_0 (rFrom_1 x y) (wFrom_1 x y)) false), (gP (Value.tuple { toList := [Value.int IntKind.i64 (wSector_0 b n), Value.int IntKind.i64 (wSector_1 b n)] }) ([AObj.row [Value.float FloatKind.f64 u, Value.float FloatKind.f64 v, Value.float FloatKind.f64 t] true none, AObj.row [Value.float FloatKind.f64 x, Value.float FloatKind.f64 y] true none]) (okSec b n)), (gP (Value.tuple { toList := [Value.int IntKind.i64 (rSector_0 b n), Value.int IntKind.i64 (rSector_1 b n)] }) ([AObj.row [Value.float FloatKind.f64 u, Value.float FloatKind.f64 v, Value.float FloatKind.f64 t] true none, AObj.row [Value.float FloatKind.f64 x, Value.float FloatKind.f64 y] true none]) (okRSec b n)), (bP (gSameP_0 (wMoved_0 u v t x y) (wMoved_1 u v t x y) (rMoved_0 u v t x y) (rMoved_1 u v t x y) == true) true), (bP (gSameP_0 (wMoved_0 u v t x y) (wMoved_1 u v t x y) (rMoved_0 u v t x y) (rMoved_1 u v t x y) == true) true), (bP (gSameP_0 (wMoved_0 u v t x y) (wMoved_1 u v t x y) (rMoved_0 u v t x y) (rMoved_1 u v t x y) == true) true), (bP (gSameP_0 (wMoved_0 u v t x y) (wMoved_1 u v t x y) (rMoved_0 u v t x y) (rMoved_1 u v t x y) == true) true), (bP (gSameP_0 (wMoved_0 u v t x y) (wMoved_1 u v t x y) (rMoved_0 u v t x y) (rMoved_1 u v t x y) == true) true), (bP (gSameP_0 (wMoved_0 u v t x y) (wMoved_1 u v t x y) (rMoved_0 u v t x y) (rMoved_1 u v t x y) == true) true), (bP (gSameP_0 (wMoved_0 u v t x y) (wMoved_1 u v t x y) (rMoved_0 u v t x y) (rMoved_1 u v t x y) == true) true), (pP (some (Value.bool (gSameP_0 (wBack_0 u v t x y) (wBack_1 u v t x y) (rBack_0 u v t x y) (rBack_1 u v t x y)))) (some (Value.bool false)) ([AObj.row [Value.float FloatKind.f64 u, Value.float FloatKind.f64 v, Value.float FloatKind.f64 t] true none, AObj.row [Value.float FloatKind.f64 x, Value.float FloatKind.f64 y] true none]) (gSameP_0 (wMoved_0 u v t x y) (wMoved_1 u v t x y) (rMoved_0 u v t x y) (rMoved_1 u v t x y)) (Value.bool (gSameP_0 (wBack_0 u v t x y) (wBack_1 u v t x y) (rBack_0 u v t x y) (rBack_1 u v t x y)))), (bP (gSameP_0 (wBack_0 u v t x y) (wBack_1 u v t x y) (rBack_0 u v t x y) (rBack_1 u v t x y) == true) false), (bP (gSameP_0 (wBack_0 u v t x y) (wBack_1 u v t x y) (rBack_0 u v t x y) (rBack_1 u v t x y) == true) false), (bP (gSameP_0 (wBack_0 u v t x y) (wBack_1 u v t x y) (rBack_0 u v t x y) (rBack_1 u v t x y) == true) false), (pP (none) (some (Value.bool false)) ([AObj.row [Value.float FloatKind.f64 u, Value.float FloatKind.f64 v, Value.float FloatKind.f64 t] true none, AObj.row [Value.float FloatKind.f64 x, Value.float FloatKind.f64 y] true none]) (gSameP_0 (wBack_0 u v t x y) (wBack_1 u v t x y) (rBack_0 u v t x y) (rBack_1 u v t x y)) (Value.bool false))]) (σ1 := [AObj.row [Value.float FloatKind.f64 u, Value.float FloatKind.f64 v, Value.float FloatKind.f64 t] true none, AObj.row [Value.float FloatKind.f64 x, Value.float FloatKind.f64 y] true none]) (by kernel_rfl) ⟨bP_of (fun x => (!x) == false) h0, ⟨bP_of (fun x => (!x) == false) h0, ⟨bP_of (fun x => (!x) == false) h0, ⟨bP_of (fun x => (!x) == false) h0, ⟨pP_f _ _ _ (congrArg (fun bb => (!bb)) h0), ⟨bP_of (fun x => (!x) == false) h1, ⟨bP_of (fun x => (!x) == false) h1, ⟨bP_of (fun x => (!x) == false) h1, ⟨bP_of (fun x => (!x) == false) h1, ⟨pP_f _ _ _ (congrArg (fun bb => (!bb)) h1), ⟨bP_of (fun x => !x) h2, ⟨gP_true _ _ h3, ⟨gP_true _ _ h4, ⟨bP_of (fun x => x == true) h5, ⟨bP_of (fun x => x == true) h5, ⟨bP_of (fun x => x == true) h5, ⟨bP_of (fun x => x == true) h5, ⟨bP_of (fun x => x == true) h5, ⟨bP_of (fun x => x == true) h5, ⟨bP_of (fun x => x == true) h5, ⟨pP_t _ _ _ (congrArg (fun bb => (bb)) h5), ⟨bP_of (fun x => x == true) h6, ⟨bP_of (fun x => x == true) h6, ⟨bP_of (fun x => x == true) h6, ⟨pP_f _ _ _ (congrArg (fun bb => (bb)) h6), trivial⟩⟩⟩⟩⟩⟩⟩⟩⟩⟩⟩⟩⟩⟩⟩⟩⟩⟩⟩⟩⟩⟩⟩⟩⟩ rfl rfl
theorem gTurns_p4 (m : Nat) (b : Nat) (u : Nat) (v : Nat) (t : Nat) (x : Nat) (y : Nat) (n : Int) (σ : AHeap) (h0 : (gSameP_0 (wTo_0 m b) (wTo_1 m b) (rTo_0 m b) (rTo_1 m b)) = true) (h1 : (gSameF_0 (wFrom_0 x y) (rFrom_0 x y)) = true) (h2 : (gSameF_0 (rFrom_1 x y) (wFrom_1 x y)) = true) (h3 : (okSec b n) = true) (h4 : (okRSec b n) = true) (h5 : (gSameP_0 (wMoved_0 u v t x y) (wMoved_1 u v t x y) (rMoved_0 u v t x y) (rMoved_1 u v t x y)) = false) : CallR Try.prog false 10 [.float .f64 m, .float .f64 b, .agg #[.float .f64 u, .float .f64 v, .float .f64 t], .agg #[.float .f64 x, .float .f64 y], .int .i64 n] σ (Value.bool false) σ := CallR.of_DO_pure (C := dL13) dL13_ok Try.func10 gTurns_fok (n := 100) (orc := [(52, Item.br true), (54, Item.br true), (56, Item.br true), (58, Item.br true), (61, Item.res (Value.bool !gSameF_0 (wFrom_0 x y) (rFrom_0 x y))), (64, Item.br true), (66, Item.br true), (68, Item.br true), (70, Item.br true), (73, Item.res (Value.bool !gSameF_0 (rFrom_1 x y) (wFrom_1 x y))), (74, Item.br false), (80, Item.res (Value.tuple { toList := [Value.int IntKind.i64 (wSector_0 b n), Value.int IntKind.i64 (wSector_1 b n)] })), (96, Item.res (Value.tuple { toList := [Value.int IntKind.i64 (rSector_0 b n), Value.int IntKind.i64 (rSector_1 b n)] })), (123, Item.br false), (125, Item.br false), (127, Item.br false), (129, Item.br false), (131, Item.br false), (133, Item.br false), (135, Item.br false), (138, Item.res (Value.bool false))]) (ps := [(bP ((!gSameP_0 (wTo_0 m b) (wTo_1 m b) (rTo_0 m b) (rTo_1 m b)) == false) true), (bP ((!gSameP_0 (wTo_0 m b) (wTo_1 m b) (rTo_0 m b) (rTo_1 m b)) == false) true), (bP ((!gSameP_0 (wTo_0 m b) (wTo_1 m b) (rTo_0 m b) (rTo_1 m b)) == false) true), (bP ((!gSameP_0 (wTo_0 m b) (wTo_1 m b) (rTo_0 m b) (rTo_1 m b)) == false) true), (pP (some (Value.bool true)) (some (Value.bool !gSameF_0 (wFrom_0 x y) (rFrom_0 x y))) ([AObj.row [Value.float FloatKind.f64 u, Value.float FloatKind.f64 v, Value.float FloatKind.f64 t] true none, AObj.row [Value.float FloatKind.f64 x, Value.float FloatKind.f64 y] true none]) (!gSameP_0 (wTo_0 m b) (wTo_1 m b) (rTo_0 m b) (rTo_1 m b)) (Value.bool !gSameF_0 (wFrom_0 x y) (rFrom_0 x y))), (bP ((!gSameF_0 (wFrom_0 x y) (rFrom_0 x y)) == false) true), (bP ((!gSameF_0 (wFrom_0 x y) (rFrom_0 x y)) == false) true), (bP ((!gSameF_0 (wFrom_0 x y) (rFrom_0 x y)) == false) true), (bP ((!gSameF_0 (wFrom_0 x y) (rFrom_0 x y)) == false) true), (pP (some (Value.bool true)) (some (Value.bool !gSameF_0 (rFrom_1 x y) (wFrom_1 x y))) ([AObj.row [Value.float FloatKind.f64 u, Value.float FloatKind.f64 v, Value.float FloatKind.f64 t] true none, AObj.row [Value.float FloatKind.f64 x, Value.float FloatKind.f64 y] true none]) (!gSameF_0 (wFrom_0 x y) (rFrom_0 x y)) (Value.bool !gSameF_0 (rFrom_1 x y) (wFrom_1 x y))), (bP (!gSameF_0 (rFrom_1 x y) (wFrom_1 x y)) false), (gP (Value.tuple { toList := [Value.int IntKind.i64 (wSector_0 b n), Value.int IntKind.i64 (wSector_1 b n)] }) ([AObj.row [Value.float FloatKind.f64 u, Value.float FloatKind.f64 v, Value.float FloatKind.f64 t] true none, AObj.row [Value.float FloatKind.f64 x, Value.float FloatKind.f64 y] true none]) (okSec b n)), (gP (Value.tuple { toList := [Value.int IntKind.i64 (rSector_0 b n), Value.int IntKind.i64 (rSector_1 b n)] }) ([AObj.row [Value.float FloatKind.f64 u, Value.float FloatKind.f64 v, Value.float FloatKind.f64 t] true none, AObj.row [Value.float FloatKind.f64 x, Value.float FloatKind.f64 y] true none]) (okRSec b n)), (bP (gSameP_0 (wMoved_0 u v t x y) (wMoved_1 u v t x y) (rMoved_0 u v t x y) (rMoved_1 u v t x y) == true) false), (bP (gSameP_0 (wMoved_0 u v t x y) (wMoved_1 u v t x y) (rMoved_0 u v t x y) (rMoved_1 u v t x y) == true) false), (bP (gSameP_0 (wMoved_0 u v t x y) (wMoved_1 u v t x y) (rMoved_0 u v t x y) (rMoved_1 u v t x y) == true) false), (bP (gSameP_0 (wMoved_0 u v t x y) (wMoved_1 u v t x y) (rMoved_0 u v t x y) (rMoved_1 u v t x y) == true) false), (bP (gSameP_0 (wMoved_0 u v t x y) (wMoved_1 u v t x y) (rMoved_0 u v t x y) (rMoved_1 u v t x y) == true) false), (bP (gSameP_0 (wMoved_0 u v t x y) (wMoved_1 u v t x y) (rMoved_0 u v t x y) (rMoved_1 u v t x y) == true) false), (bP (gSameP_0 (wMoved_0 u v t x y) (wMoved_1 u v t x y) (rMoved_0 u v t x y) (rMoved_1 u v t x y) == true) false), (pP (none) (some (Value.bool false)) ([AObj.row [Value.float FloatKind.f64 u, Value.float FloatKind.f64 v, Value.float FloatKind.f64 t] true none, AObj.row [Value.float FloatKind.f64 x, Value.float FloatKind.f64 y] true none]) (gSameP_0 (wMoved_0 u v t x y) (wMoved_1 u v t x y) (rMoved_0 u v t x y) (rMoved_1 u v t x y)) (Value.bool false))]) (σ1 := [AObj.row [Value.float FloatKind.f64 u, Value.float FloatKind.f64 v, Value.float FloatKind.f64 t] true none, AObj.row [Value.float FloatKind.f64 x, Value.float FloatKind.f64 y] true none]) (by kernel_rfl) ⟨bP_of (fun x => (!x) == false) h0, ⟨bP_of (fun x => (!x) == false) h0, ⟨bP_of (fun x => (!x) == false) h0, ⟨bP_of (fun x => (!x) == false) h0, ⟨pP_f _ _ _ (congrArg (fun bb => (!bb)) h0), ⟨bP_of (fun x => (!x) == false) h1, ⟨bP_of (fun x => (!x) == false) h1, ⟨bP_of (fun x => (!x) == false) h1, ⟨bP_of (fun x => (!x) == false) h1, ⟨pP_f _ _ _ (congrArg (fun bb => (!bb)) h1), ⟨bP_of (fun x => !x) h2, ⟨gP_true _ _ h3, ⟨gP_true _ _ h4, ⟨bP_of (fun x => x == true) h5, ⟨bP_of (fun x => x == true) h5, ⟨bP_of (fun x => x == true) h5, ⟨bP_of (fun x => x == true) h5, ⟨bP_of (fun x => x == true) h5, ⟨bP_of (fun x => x == true) h5, ⟨bP_of (fun x => x == true) h5, ⟨pP_f _ _ _ (congrArg (fun bb => (bb)) h5), trivial⟩⟩⟩⟩⟩⟩⟩⟩⟩⟩⟩⟩⟩⟩⟩⟩⟩⟩⟩⟩⟩ rfl rfl
theorem gTurns_p5 (m : Nat) (b : Nat) (u : Nat) (v : Nat) (t : Nat) (x : Nat) (y : Nat) (n : Int) (σ : AHeap) (h0 : (gSameP_0 (wTo_0 m b) (wTo_1 m b) (rTo_0 m b) (rTo_1 m b)) = true) (h1 : (gSameF_0 (wFrom_0 x y) (rFrom_0 x y)) = true) (h2 : (gSameF_0 (rFrom_1 x y) (wFrom_1 x y)) = false) : CallR Try.prog false 10 [.float .f64 m, .float .f64 b, .agg #[.float .f64 u, .float .f64 v, .float .f64 t], .agg #[.float .f64 x, .float .f64 y], .int .i64 n] σ (Value.bool false) σ := CallR.of_DO_pure (C := dL13) dL13_ok Try.func10 gTurns_fok (n := 100) (orc := [(52, Item.br true), (54, Item.br true), (56, Item.br true), (58, Item.br true), (61, Item.res (Value.bool !gSameF_0 (wFrom_0 x y) (rFrom_0 x y))), (64, Item.br true), (66, Item.br true), (68, Item.br true), (70, Item.br true), (73, Item.res (Value.bool !gSameF_0 (rFrom_1 x y) (wFrom_1 x y))), (74, Item.br true)]) (ps := [(bP ((!gSameP_0 (wTo_0 m b) (wTo_1 m b) (rTo_0 m b) (rTo_1 m b)) == false) true), (bP ((!gSameP_0 (wTo_0 m b) (wTo_1 m b) (rTo_0 m b) (rTo_1 m b)) == false) true), (bP ((!gSameP_0 (wTo_0 m b) (wTo_1 m b) (rTo_0 m b) (rTo_1 m b)) == false) true), (bP ((!gSameP_0 (wTo_0 m b) (wTo_1 m b) (rTo_0 m b) (rTo_1 m b)) == false) true), (pP (some (Value.bool true)) (some (Value.bool !gSameF_0 (wFrom_0 x y) (rFrom_0 x y))) ([AObj.row [Value.float FloatKind.f64 u, Value.float FloatKind.f64 v, Value.float FloatKind.f64 t] true none, AObj.row [Value.float FloatKind.f64 x, Value.float FloatKind.f64 y] true none]) (!gSameP_0 (wTo_0 m b) (wTo_1 m b) (rTo_0 m b) (rTo_1 m b)) (Value.bool !gSameF_0 (wFrom_0 x y) (rFrom_0 x y))), (bP ((!gSameF_0 (wFrom_0 x y) (rFrom_0 x y)) == false) true), (bP ((!gSameF_0 (wFrom_0 x y) (rFrom_0 x y)) == false) true), (bP ((!gSameF_0 (wFrom_0 x y) (rFrom_0 x y)) == false) true), (bP ((!gSameF_0 (wFrom_0 x y) (rFrom_0 x y)) == false) true), (pP (some (Value.bool true)) (some (Value.bool !gSameF_0 (rFrom_1 x y) (wFrom_1 x y))) ([AObj.row [Value.float FloatKind.f64 u, Value.float FloatKind.f64 v, Value.float FloatKind.f64 t] true none, AObj.row [Value.float FloatKind.f64 x, Value.float FloatKind.f64 y] true none]) (!gSameF_0 (wFrom_0 x y) (rFrom_0 x y)) (Value.bool !gSameF_0 (rFrom_1 x y) (wFrom_1 x y))), (bP (!gSameF_0 (rFrom_1 x y) (wFrom_1 x y)) true)]) (σ1 := [AObj.row [Value.float FloatKind.f64 u, Value.float FloatKind.f64 v, Value.float FloatKind.f64 t] true none, AObj.row [Value.float FloatKind.f64 x, Value.float FloatKind.f64 y] true none]) (by kernel_rfl) ⟨bP_of (fun x => (!x) == false) h0, ⟨bP_of (fun x => (!x) == false) h0, ⟨bP_of (fun x => (!x) == false) h0, ⟨bP_of (fun x => (!x) == false) h0, ⟨pP_f _ _ _ (congrArg (fun bb => (!bb)) h0), ⟨bP_of (fun x => (!x) == false) h1, ⟨bP_of (fun x => (!x) == false) h1, ⟨bP_of (fun x => (!x) == false) h1, ⟨bP_of (fun x => (!x) == false) h1, ⟨pP_f _ _ _ (congrArg (fun bb => (!bb)) h1), ⟨bP_of (fun x => !x) h2, trivial⟩⟩⟩⟩⟩⟩⟩⟩⟩⟩⟩ rfl rfl
theorem gTurns_p6 (m : Nat) (b : Nat) (u : Nat) (v : Nat) (t : Nat) (x : Nat) (y : Nat) (n : Int) (σ : AHeap) (h0 : (gSameP_0 (wTo_0 m b) (wTo_1 m b) (rTo_0 m b) (rTo_1 m b)) = true) (h1 : (gSameF_0 (wFrom_0 x y) (rFrom_0 x y)) = false) : CallR Try.prog false 10 [.float .f64 m, .float .f64 b, .agg #[.float .f64 u, .float .f64 v, .float .f64 t], .agg #[.float .f64 x, .float .f64 y], .int .i64 n] σ (Value.bool false) σ := CallR.of_DO_pure (C := dL13) dL13_ok Try.func10 gTurns_fok (n := 100) (orc := [(52, Item.br true), (54, Item.br true), (56, Item.br true), (58, Item.br true), (61, Item.res (Value.bool !gSameF_0 (wFrom_0 x y) (rFrom_0 x y))), (64, Item.br false), (66, Item.br false), (68, Item.br false), (70, Item.br false), (73, Item.res (Value.bool true))]) (ps := [(bP ((!gSameP_0 (wTo_0 m b) (wTo_1 m b) (rTo_0 m b) (rTo_1 m b)) == false) true), (bP ((!gSameP_0 (wTo_0 m b) (wTo_1 m b) (rTo_0 m b) (rTo_1 m b)) == false) true), (bP ((!gSameP_0 (wTo_0 m b) (wTo_1 m b) (rTo_0 m b) (rTo_1 m b)) == false) true), (bP ((!gSameP_0 (wTo_0 m b) (wTo_1 m b) (rTo_0 m b) (rTo_1 m b)) == false) true), (pP (some (Value.bool true)) (some (Value.bool !gSameF_0 (wFrom_0 x y) (rFrom_0 x y))) ([AObj.row [Value.float FloatKind.f64 u, Value.float FloatKind.f64 v, Value.float FloatKind.f64 t] true none, AObj.row [Value.float FloatKind.f64 x, Value.float FloatKind.f64 y] true none]) (!gSameP_0 (wTo_0 m b) (wTo_1 m b) (rTo_0 m b) (rTo_1 m b)) (Value.bool !gSameF_0 (wFrom_0 x y) (rFrom_0 x y))), (bP ((!gSameF_0 (wFrom_0 x y) (rFrom_0 x y)) == false) false), (bP ((!gSameF_0 (wFrom_0 x y) (rFrom_0 x y)) == false) false), (bP ((!gSameF_0 (wFrom_0 x y) (rFrom_0 x y)) == false) false), (bP ((!gSameF_0 (wFrom_0 x y) (rFrom_0 x y)) == false) false), (pP (some (Value.bool true)) (none) ([AObj.row [Value.float FloatKind.f64 u, Value.float FloatKind.f64 v, Value.float FloatKind.f64 t] true none, AObj.row [Value.float FloatKind.f64 x, Value.float FloatKind.f64 y] true none]) (!gSameF_0 (wFrom_0 x y) (rFrom_0 x y)) (Value.bool true))]) (σ1 := [AObj.row [Value.float FloatKind.f64 u, Value.float FloatKind.f64 v, Value.float FloatKind.f64 t] true none, AObj.row [Value.float FloatKind.f64 x, Value.float FloatKind.f64 y] true none]) (by kernel_rfl) ⟨bP_of (fun x => (!x) == false) h0, ⟨bP_of (fun x => (!x) == false) h0, ⟨bP_of (fun x => (!x) == false) h0, ⟨bP_of (fun x => (!x) == false) h0, ⟨pP_f _ _ _ (congrArg (fun bb => (!bb)) h0), ⟨bP_of (fun x => (!x) == false) h1, ⟨bP_of (fun x => (!x) == false) h1, ⟨bP_of (fun x => (!x) == false) h1, ⟨bP_of (fun x => (!x) == false) h1, ⟨pP_t _ _ _ (congrArg (fun bb => (!bb)) h1), trivial⟩⟩⟩⟩⟩⟩⟩⟩⟩⟩ rfl rfl
theorem gTurns_p7 (m : Nat) (b : Nat) (u : Nat) (v : Nat) (t : Nat) (x : Nat) (y : Nat) (n : Int) (σ : AHeap) (h0 : (gSameP_0 (wTo_0 m b) (wTo_1 m b) (rTo_0 m b) (rTo_1 m b)) = false) : CallR Try.prog false 10 [.float .f64 m, .float .f64 b, .agg #[.float .f64 u, .float .f64 v, .float .f64 t], .agg #[.float .f64 x, .float .f64 y], .int .i64 n] σ (Value.bool false) σ := CallR.of_DO_pure (C := dL13) dL13_ok Try.func10 gTurns_fok (n := 100) (orc := [(52, Item.br false), (54, Item.br false), (56, Item.br false), (58, Item.br false), (61, Item.res (Value.bool true))]) (ps := [(bP ((!gSameP_0 (wTo_0 m b) (wTo_1 m b) (rTo_0 m b) (rTo_1 m b)) == false) false), (bP ((!gSameP_0 (wTo_0 m b) (wTo_1 m b) (rTo_0 m b) (rTo_1 m b)) == false) false), (bP ((!gSameP_0 (wTo_0 m b) (wTo_1 m b) (rTo_0 m b) (rTo_1 m b)) == false) false), (bP ((!gSameP_0 (wTo_0 m b) (wTo_1 m b) (rTo_0 m b) (rTo_1 m b)) == false) false), (pP (some (Value.bool true)) (none) ([AObj.row [Value.float FloatKind.f64 u, Value.float FloatKind.f64 v, Value.float FloatKind.f64 t] true none, AObj.row [Value.float FloatKind.f64 x, Value.float FloatKind.f64 y] true none]) (!gSameP_0 (wTo_0 m b) (wTo_1 m b) (rTo_0 m b) (rTo_1 m b)) (Value.bool true))]) (σ1 := [AObj.row [Value.float FloatKind.f64 u, Value.float FloatKind.f64 v, Value.float FloatKind.f64 t] true none, AObj.row [Value.float FloatKind.f64 x, Value.float FloatKind.f64 y] true none]) (by kernel_rfl) ⟨bP_of (fun x => (!x) == false) h0, ⟨bP_of (fun x => (!x) == false) h0, ⟨bP_of (fun x => (!x) == false) h0, ⟨bP_of (fun x => (!x) == false) h0, ⟨pP_t _ _ _ (congrArg (fun bb => (!bb)) h0), trivial⟩⟩⟩⟩⟩ rfl rfl
def gTurns_t (m : Nat) (b : Nat) (u : Nat) (v : Nat) (t : Nat) (x : Nat) (y : Nat) (n : Int) : Value := (bif gSameP_0 (wTo_0 m b) (wTo_1 m b) (rTo_0 m b) (rTo_1 m b) then (bif gSameF_0 (wFrom_0 x y) (rFrom_0 x y) then (bif gSameF_0 (rFrom_1 x y) (wFrom_1 x y) then (bif gSameP_0 (wMoved_0 u v t x y) (wMoved_1 u v t x y) (rMoved_0 u v t x y) (rMoved_1 u v t x y) then (bif gSameP_0 (wBack_0 u v t x y) (wBack_1 u v t x y) (rBack_0 u v t x y) (rBack_1 u v t x y) then (bif wSector_0 b n == rSector_0 b n then (bif wSector_1 b n == rSector_1 b n then (Value.bool true) else (Value.bool false)) else (Value.bool false)) else (Value.bool false)) else (Value.bool false)) else (Value.bool false)) else (Value.bool false)) else (Value.bool false))
theorem gTurns_c (m : Nat) (b : Nat) (u : Nat) (v : Nat) (t : Nat) (x : Nat) (y : Nat) (n : Int) (σ : AHeap) (g0_3 : (gSameP_0
  (wTo_0 m b) (wTo_1 m b) (rTo_0 m b)
  (rTo_1 m
    b)) = true → (gSameF_0 (wFrom_0 x y)
  (rFrom_0 x
    y)) = true → (gSameF_0 (rFrom_1 x y)
  (wFrom_1 x
    y)) = true → (gSameP_0 (wMoved_0 u v t x y) (wMoved_1 u v t x y) (rMoved_0 u v t x y)
  (rMoved_1 u v t x
    y)) = true → (gSameP_0 (wBack_0 u v t x y) (wBack_1 u v t x y) (rBack_0 u v t x y)
  (rBack_1 u v t x
    y)) = true → (wSector_0 b n ==
  rSector_0 b
    n) = true → (wSector_1 b n ==
  rSector_1 b
    n) = true → (okSec b
  n) = true) (g0_4 : (gSameP_0 (wTo_0 m b) (wTo_1 m b) (rTo_0 m b)
  (rTo_1 m
    b)) = true → (gSameF_0 (wFrom_0 x y)
  (rFrom_0 x
    y)) = true → (gSameF_0 (rFrom_1 x y)
  (wFrom_1 x
    y)) = true → (gSameP_0 (wMoved_0 u v t x y) (wMoved_1 u v t x y) (rMoved_0 u v t x y)
  (rMoved_1 u v t x
    y)) = true → (gSameP_0 (wBack_0 u v t x y) (wBack_1 u v t x y) (rBack_0 u v t x y)
  (rBack_1 u v t x
    y)) = true → (wSector_0 b n ==
  rSector_0 b
    n) = true → (wSector_1 b n ==
  rSector_1 b
    n) = true → (okRSec b
  n) = true) (g1_3 : (gSameP_0 (wTo_0 m b) (wTo_1 m b) (rTo_0 m b)
  (rTo_1 m
    b)) = true → (gSameF_0 (wFrom_0 x y)
  (rFrom_0 x
    y)) = true → (gSameF_0 (rFrom_1 x y)
  (wFrom_1 x
    y)) = true → (gSameP_0 (wMoved_0 u v t x y) (wMoved_1 u v t x y) (rMoved_0 u v t x y)
  (rMoved_1 u v t x
    y)) = true → (gSameP_0 (wBack_0 u v t x y) (wBack_1 u v t x y) (rBack_0 u v t x y)
  (rBack_1 u v t x
    y)) = true → (wSector_0 b n ==
  rSector_0 b
    n) = true → (wSector_1 b n ==
  rSector_1 b
    n) = false → (okSec b
  n) = true) (g1_4 : (gSameP_0 (wTo_0 m b) (wTo_1 m b) (rTo_0 m b)
  (rTo_1 m
    b)) = true → (gSameF_0 (wFrom_0 x y)
  (rFrom_0 x
    y)) = true → (gSameF_0 (rFrom_1 x y)
  (wFrom_1 x
    y)) = true → (gSameP_0 (wMoved_0 u v t x y) (wMoved_1 u v t x y) (rMoved_0 u v t x y)
  (rMoved_1 u v t x
    y)) = true → (gSameP_0 (wBack_0 u v t x y) (wBack_1 u v t x y) (rBack_0 u v t x y)
  (rBack_1 u v t x
    y)) = true → (wSector_0 b n ==
  rSector_0 b
    n) = true → (wSector_1 b n ==
  rSector_1 b
    n) = false → (okRSec b
  n) = true) (g2_3 : (gSameP_0 (wTo_0 m b) (wTo_1 m b) (rTo_0 m b)
  (rTo_1 m
    b)) = true → (gSameF_0 (wFrom_0 x y)
  (rFrom_0 x
    y)) = true → (gSameF_0 (rFrom_1 x y)
  (wFrom_1 x
    y)) = true → (gSameP_0 (wMoved_0 u v t x y) (wMoved_1 u v t x y) (rMoved_0 u v t x y)
  (rMoved_1 u v t x
    y)) = true → (gSameP_0 (wBack_0 u v t x y) (wBack_1 u v t x y) (rBack_0 u v t x y)
  (rBack_1 u v t x
    y)) = true → (wSector_0 b n ==
  rSector_0 b
    n) = false → (okSec b
  n) = true) (g2_4 : (gSameP_0 (wTo_0 m b) (wTo_1 m b) (rTo_0 m b)
  (rTo_1 m
    b)) = true → (gSameF_0 (wFrom_0 x y)
  (rFrom_0 x
    y)) = true → (gSameF_0 (rFrom_1 x y)
  (wFrom_1 x
    y)) = true → (gSameP_0 (wMoved_0 u v t x y) (wMoved_1 u v t x y) (rMoved_0 u v t x y)
  (rMoved_1 u v t x
    y)) = true → (gSameP_0 (wBack_0 u v t x y) (wBack_1 u v t x y) (rBack_0 u v t x y)
  (rBack_1 u v t x
    y)) = true → (wSector_0 b n ==
  rSector_0 b
    n) = false → (okRSec b
  n) = true) (g3_3 : (gSameP_0 (wTo_0 m b) (wTo_1 m b) (rTo_0 m b)
  (rTo_1 m
    b)) = true → (gSameF_0 (wFrom_0 x y)
  (rFrom_0 x
    y)) = true → (gSameF_0 (rFrom_1 x y)
  (wFrom_1 x
    y)) = true → (gSameP_0 (wMoved_0 u v t x y) (wMoved_1 u v t x y) (rMoved_0 u v t x y)
  (rMoved_1 u v t x
    y)) = true → (gSameP_0 (wBack_0 u v t x y) (wBack_1 u v t x y) (rBack_0 u v t x y)
  (rBack_1 u v t x
    y)) = false → (okSec b
  n) = true) (g3_4 : (gSameP_0 (wTo_0 m b) (wTo_1 m b) (rTo_0 m b)
  (rTo_1 m
    b)) = true → (gSameF_0 (wFrom_0 x y)
  (rFrom_0 x
    y)) = true → (gSameF_0 (rFrom_1 x y)
  (wFrom_1 x
    y)) = true → (gSameP_0 (wMoved_0 u v t x y) (wMoved_1 u v t x y) (rMoved_0 u v t x y)
  (rMoved_1 u v t x
    y)) = true → (gSameP_0 (wBack_0 u v t x y) (wBack_1 u v t x y) (rBack_0 u v t x y)
  (rBack_1 u v t x
    y)) = false → (okRSec b
  n) = true) (g4_3 : (gSameP_0 (wTo_0 m b) (wTo_1 m b) (rTo_0 m b)
  (rTo_1 m
    b)) = true → (gSameF_0 (wFrom_0 x y)
  (rFrom_0 x
    y)) = true → (gSameF_0 (rFrom_1 x y)
  (wFrom_1 x
    y)) = true → (gSameP_0 (wMoved_0 u v t x y) (wMoved_1 u v t x y) (rMoved_0 u v t x y)
  (rMoved_1 u v t x
    y)) = false → (okSec b
  n) = true) (g4_4 : (gSameP_0 (wTo_0 m b) (wTo_1 m b) (rTo_0 m b)
  (rTo_1 m
    b)) = true → (gSameF_0 (wFrom_0 x y)
  (rFrom_0 x
    y)) = true → (gSameF_0 (rFrom_1 x y)
  (wFrom_1 x
    y)) = true → (gSameP_0 (wMoved_0 u v t x y) (wMoved_1 u v t x y) (rMoved_0 u v t x y)
  (rMoved_1 u v t x
    y)) = false → (okRSec b
  n) = true) : CallR Try.prog false 10 [.float .f64 m, .float .f64 b,
  .agg #[.float .f64 u, .float .f64 v, .float .f64 t], .agg #[.float .f64 x, .float .f64 y],
  .int .i64 n] σ (gTurns_t m b u v t x y n) σ := by
  unfold gTurns_t
  exact (CallR.bif (fun h0 => (CallR.bif (fun h1 => (CallR.bif (fun h2 => (CallR.bif (fun h3 => (CallR.bif (fun h4 => (CallR.bif (fun h5 => (CallR.bif (fun h6 => (gTurns_p0 m b u v t x y n σ h0 h1 h2 (g0_3 h0 h1 h2 h3 h4 h5 h6) (g0_4 h0 h1 h2 h3 h4 h5 h6) h3 h4 h5 h6)) (fun h6 => (gTurns_p1 m b u v t x y n σ h0 h1 h2 (g1_3 h0 h1 h2 h3 h4 h5 h6) (g1_4 h0 h1 h2 h3 h4 h5 h6) h3 h4 h5 h6)))) (fun h5 => (gTurns_p2 m b u v t x y n σ h0 h1 h2 (g2_3 h0 h1 h2 h3 h4 h5) (g2_4 h0 h1 h2 h3 h4 h5) h3 h4 h5)))) (fun h4 => (gTurns_p3 m b u v t x y n σ h0 h1 h2 (g3_3 h0 h1 h2 h3 h4) (g3_4 h0 h1 h2 h3 h4) h3 h4)))) (fun h3 => (gTurns_p4 m b u v t x y n σ h0 h1 h2 (g4_3 h0 h1 h2 h3) (g4_4 h0 h1 h2 h3) h3)))) (fun h2 => (gTurns_p5 m b u v t x y n σ h0 h1 h2)))) (fun h1 => (gTurns_p6 m b u v t x y n σ h0 h1)))) (fun h0 => (gTurns_p7 m b u v t x y n σ h0)))
def gTurns_0 (m : Nat) (b : Nat) (u : Nat) (v : Nat) (t : Nat) (x : Nat) (y : Nat) (n : Int) : Bool := (bif gSameP_0 (wTo_0 m b) (wTo_1 m b) (rTo_0 m b) (rTo_1 m b) then (bif gSameF_0 (wFrom_0 x y) (rFrom_0 x y) then (bif gSameF_0 (rFrom_1 x y) (wFrom_1 x y) then (bif gSameP_0 (wMoved_0 u v t x y) (wMoved_1 u v t x y) (rMoved_0 u v t x y) (rMoved_1 u v t x y) then (bif gSameP_0 (wBack_0 u v t x y) (wBack_1 u v t x y) (rBack_0 u v t x y) (rBack_1 u v t x y) then (bif wSector_0 b n == rSector_0 b n then (bif wSector_1 b n == rSector_1 b n then true else false) else false) else false) else false) else false) else false) else false)
theorem gTurns_v (m : Nat) (b : Nat) (u : Nat) (v : Nat) (t : Nat) (x : Nat) (y : Nat) (n : Int) : gTurns_t m b u v t x y n = Go.Value.bool (gTurns_0 m b u v t x y n) := by
  unfold gTurns_t gTurns_0
  cases (gSameP_0 (wTo_0 m b) (wTo_1 m b) (rTo_0 m b) (rTo_1 m b)) with
  | true =>
    cases (gSameF_0 (wFrom_0 x y) (rFrom_0 x y)) with
    | true =>
      cases (gSameF_0 (rFrom_1 x y) (wFrom_1 x y)) with
      | true =>
        cases (gSameP_0 (wMoved_0 u v t x y) (wMoved_1 u v t x y) (rMoved_0 u v t x y) (rMoved_1 u v t x y)) with
        | true =>
          cases (gSameP_0 (wBack_0 u v t x y) (wBack_1 u v t x y) (rBack_0 u v t x y) (rBack_1 u v t x y)) with
          | true =>
            cases (wSector_0 b n == rSector_0 b n) with
            | true =>
              cases (wSector_1 b n == rSector_1 b n) with
              | true =>
                kernel_rfl
              | false =>
                kernel_rfl
            | false =>
              kernel_rfl
          | false =>
            kernel_rfl
        | false =>
          kernel_rfl
      | false =>
        kernel_rfl
    | false =>
      kernel_rfl
  | false =>
    kernel_rfl
theorem gTurns_ok (m : Nat) (b : Nat) (u : Nat) (v : Nat) (t : Nat) (x : Nat) (y : Nat) (n : Int) (σ : AHeap) (g0_3 : (gSameP_0
  (wTo_0 m b) (wTo_1 m b) (rTo_0 m b)
  (rTo_1 m
    b)) = true → (gSameF_0 (wFrom_0 x y)
  (rFrom_0 x
    y)) = true → (gSameF_0 (rFrom_1 x y)
  (wFrom_1 x
    y)) = true → (gSameP_0 (wMoved_0 u v t x y) (wMoved_1 u v t x y) (rMoved_0 u v t x y)
  (rMoved_1 u v t x
    y)) = true → (gSameP_0 (wBack_0 u v t x y) (wBack_1 u v t x y) (rBack_0 u v t x y)
  (rBack_1 u v t x
    y)) = true → (wSector_0 b n ==
  rSector_0 b
    n) = true → (wSector_1 b n ==
  rSector_1 b
    n) = true → (okSec b
  n) = true) (g0_4 : (gSameP_0 (wTo_0 m b) (wTo_1 m b) (rTo_0 m b)
  (rTo_1 m
    b)) = true → (gSameF_0 (wFrom_0 x y)
  (rFrom_0 x
    y)) = true → (gSameF_0 (rFrom_1 x y)
  (wFrom_1 x
    y)) = true → (gSameP_0 (wMoved_0 u v t x y) (wMoved_1 u v t x y) (rMoved_0 u v t x y)
  (rMoved_1 u v t x
    y)) = true → (gSameP_0 (wBack_0 u v t x y) (wBack_1 u v t x y) (rBack_0 u v t x y)
  (rBack_1 u v t x
    y)) = true → (wSector_0 b n ==
  rSector_0 b
    n) = true → (wSector_1 b n ==
  rSector_1 b
    n) = true → (okRSec b
  n) = true) (g1_3 : (gSameP_0 (wTo_0 m b) (wTo_1 m b) (rTo_0 m b)
  (rTo_1 m
    b)) = true → (gSameF_0 (wFrom_0 x y)
  (rFrom_0 x
    y)) = true → (gSameF_0 (rFrom_1 x y)
  (wFrom_1 x
    y)) = true → (gSameP_0 (wMoved_0 u v t x y) (wMoved_1 u v t x y) (rMoved_0 u v t x y)
  (rMoved_1 u v t x
    y)) = true → (gSameP_0 (wBack_0 u v t x y) (wBack_1 u v t x y) (rBack_0 u v t x y)
  (rBack_1 u v t x
    y)) = true → (wSector_0 b n ==
  rSector_0 b
    n) = true → (wSector_1 b n ==
  rSector_1 b
    n) = false → (okSec b
  n) = true) (g1_4 : (gSameP_0 (wTo_0 m b) (wTo_1 m b) (rTo_0 m b)
  (rTo_1 m
    b)) = true → (gSameF_0 (wFrom_0 x y)
  (rFrom_0 x
    y)) = true → (gSameF_0 (rFrom_1 x y)
  (wFrom_1 x
    y)) = true → (gSameP_0 (wMoved_0 u v t x y) (wMoved_1 u v t x y) (rMoved_0 u v t x y)
  (rMoved_1 u v t x
    y)) = true → (gSameP_0 (wBack_0 u v t x y) (wBack_1 u v t x y) (rBack_0 u v t x y)
  (rBack_1 u v t x
    y)) = true → (wSector_0 b n ==
  rSector_0 b
    n) = true → (wSector_1 b n ==
  rSector_1 b
    n) = false → (okRSec b
  n) = true) (g2_3 : (gSameP_0 (wTo_0 m b) (wTo_1 m b) (rTo_0 m b)
  (rTo_1 m
    b)) = true → (gSameF_0 (wFrom_0 x y)
  (rFrom_0 x
    y)) = true → (gSameF_0 (rFrom_1 x y)
  (wFrom_1 x
    y)) = true → (gSameP_0 (wMoved_0 u v t x y) (wMoved_1 u v t x y) (rMoved_0 u v t x y)
  (rMoved_1 u v t x
    y)) = true → (gSameP_0 (wBack_0 u v t x y) (wBack_1 u v t x y) (rBack_0 u v t x y)
  (rBack_1 u v t x
    y)) = true → (wSector_0 b n ==
  rSector_0 b
    n) = false → (okSec b
  n) = true) (g2_4 : (gSameP_0 (wTo_0 m b) (wTo_1 m b) (rTo_0 m b)
  (rTo_1 m
    b)) = true → (gSameF_0 (wFrom_0 x y)
  (rFrom_0 x
    y)) = true → (gSameF_0 (rFrom_1 x y)
  (wFrom_1 x
    y)) = true → (gSameP_0 (wMoved_0 u v t x y) (wMoved_1 u v t x y) (rMoved_0 u v t x y)
  (rMoved_1 u v t x
    y)) = true → (gSameP_0 (wBack_0 u v t x y) (wBack_1 u v t x y) (rBack_0 u v t x y)
  (rBack_1 u v t x
    y)) = true → (wSector_0 b n ==
  rSector_0 b
    n) = false → (okRSec b
  n) = true) (g3_3 : (gSameP_0 (wTo_0 m b) (wTo_1 m b) (rTo_0 m b)
  (rTo_1 m
    b)) = true → (gSameF_0 (wFrom_0 x y)
  (rFrom_0 x
    y)) = true → (gSameF_0 (rFrom_1 x y)
  (wFrom_1 x
    y)) = true → (gSameP_0 (wMoved_0 u v t x y) (wMoved_1 u v t x y) (rMoved_0 u v t x y)
  (rMoved_1 u v t x
    y)) = true → (gSameP_0 (wBack_0 u v t x y) (wBack_1 u v t x y) (rBack_0 u v t x y)
  (rBack_1 u v t x
    y)) = false → (okSec b
  n) = true) (g3_4 : (gSameP_0 (wTo_0 m b) (wTo_1 m b) (rTo_0 m b)
  (rTo_1 m
    b)) = true → (gSameF_0 (wFrom_0 x y)
  (rFrom_0 x
    y)) = true → (gSameF_0 (rFrom_1 x y)
  (wFrom_1 x
    y)) = true → (gSameP_0 (wMoved_0 u v t x y) (wMoved_1 u v t x y) (rMoved_0 u v t x y)
  (rMoved_1 u v t x
    y)) = true → (gSameP_0 (wBack_0 u v t x y) (wBack_1 u v t x y) (rBack_0 u v t x y)
  (rBack_1 u v t x
    y)) = false → (okRSec b
  n) = true) (g4_3 : (gSameP_0 (wTo_0 m b) (wTo_1 m b) (rTo_0 m b)
  (rTo_1 m
    b)) = true → (gSameF_0 (wFrom_0 x y)
  (rFrom_0 x
    y)) = true → (gSameF_0 (rFrom_1 x y)
  (wFrom_1 x
    y)) = true → (gSameP_0 (wMoved_0 u v t x y) (wMoved_1 u v t x y) (rMoved_0 u v t x y)
  (rMoved_1 u v t x
    y)) = false → (okSec b
  n) = true) (g4_4 : (gSameP_0 (wTo_0 m b) (wTo_1 m b) (rTo_0 m b)
  (rTo_1 m
    b)) = true → (gSameF_0 (wFrom_0 x y)
  (rFrom_0 x
    y)) = true → (gSameF_0 (rFrom_1 x y)
  (wFrom_1 x
    y)) = true → (gSameP_0 (wMoved_0 u v t x y) (wMoved_1 u v t x y) (rMoved_0 u v t x y)
  (rMoved_1 u v t x
    y)) = false → (okRSec b
  n) = true) : CallR Try.prog false 10 [.float .f64 m, .float .f64 b,
  .agg #[.float .f64 u, .float .f64 v, .float .f64 t], .agg #[.float .f64 x, .float .f64 y],
  .int .i64 n] σ (Go.Value.bool (gTurns_0 m b u v t x y n)) σ := by
  have h := gTurns_c m b u v t x y n σ g0_3 g0_4 g1_3 g1_4 g2_3 g2_4 g3_3 g3_4 g4_3 g4_4
  rw [gTurns_v] at h
  exact h
end Go.Lk
