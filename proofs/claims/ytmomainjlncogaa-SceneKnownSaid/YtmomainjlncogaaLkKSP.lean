/- Samples of noise, reckoned. -/
import Derived.Test.YtmomainjlncogaaLkM2
import Derived.Test.YtmomainjlncogaaLkFV
namespace Go.Lk
open Go.Proofs
set_option maxRecDepth 100000
set_option linter.unusedVariables false
noncomputable def LSp : Lib := ⟨Try.prog, false, t1, [(217, Try.f217), (33, Try.f33), (35, Try.f35), (127, Try.f127), (51, Try.f51), (128, Try.f128), (219, Try.f219), (218, Try.f218), (215, Try.f215)], [(216, false, Try.f216), (210, false, Try.f210), (199, false, Try.f199)]⟩
theorem LSp_fp : ∀ e, e ∈ LSp.pures → Try.prog.funcs[e.1]? = some e.2 := fs_cons Try.func217 (fs_cons Try.func33 (fs_cons Try.func35 (fs_cons Try.func127 (fs_cons Try.func51 (fs_cons Try.func128 (fs_cons Try.func219 (fs_cons Try.func218 (fs_cons Try.func215 (fs_nil)))))))))
theorem LSp_fh : ∀ e, e ∈ LSp.heaps → Try.prog.funcs[e.1]? = some e.2.2 := gs_cons Try.func216 (gs_cons Try.func210 (gs_cons Try.func199 (gs_nil)))
theorem LSp_p1 (gp : Nat → PureFn) (g : Nat → HeapFn) : (LSp.pures.all fun e => fnOk (LSp.mk' gp g) e.2) = true := by kernel_rfl
theorem LSp_h1 (gp : Nat → PureFn) (g : Nat → HeapFn) : (LSp.heaps.all fun e => fnOk (LSp.mk' gp g) e.2.2 && (!e.2.1 || fnRo (LSp.mk' gp g) e.2.2)) = true := by kernel_rfl
theorem LSp_ok : LSp.Ok := ⟨t1_ok, mixed, LSp_fp, LSp_fh, LSp_p1, LSp_h1⟩
theorem sp_ok : (match Try.f171.body with | some b => codeOk (LSp.cfg 500 12) b | none => false) = true := by kernel_rfl
def spA : List Value := [.pointer (some ⟨0, 0, none⟩), .float .f64 4607182418800017408]
def spH (a : Nat) : AHeap := [.row [.int .u64 (Int.ofNat a)] true none]
def spV (re im : Nat) : Value := .complex .f64 re im
theorem sp_of {a re im a' : Nat} (h : DFn (LSp.cfg 500 12) 500 Try.f171 spA (spH a) = some (spV re im, spH a')) : CallR Try.prog false 171 spA (spH a) (spV re im) (spH a') :=
  CallR.of_DFn (LSp_ok.cfg 500 12) Try.func171 sp_ok (by kernel_rfl) h
theorem sp_0 : DFn (LSp.cfg 500 12) 500 Try.f171 spA (spH 7) = some (spV 13830558752551049776 4608684551068439744, spH 15362738631823041023) := by kernel_rfl
theorem sp_1 : DFn (LSp.cfg 500 12) 500 Try.f171 spA (spH 15362738631823041023) = some (spV 4602848713819600392 13829467918653838968, spH 12278733189936530423) := by kernel_rfl
theorem sp_2 : DFn (LSp.cfg 500 12) 500 Try.f171 spA (spH 12278733189936530423) = some (spV 13823248695234237888 4604715686661395728, spH 9194727748050019823) := by kernel_rfl
theorem sp_3 : DFn (LSp.cfg 500 12) 500 Try.f171 spA (spH 9194727748050019823) = some (spV 4601722161429101120 13816669062821602752, spH 6110722306163509223) := by kernel_rfl
theorem sp_4 : DFn (LSp.cfg 500 12) 500 Try.f171 spA (spH 6110722306163509223) = some (spV 4608962639542601248 4610445780615190228, spH 3026716864276998623) := by kernel_rfl
theorem sp_5 : DFn (LSp.cfg 500 12) 500 Try.f171 spA (spH 3026716864276998623) = some (spV 4607781139877813552 13828392264417234552, spH 18389455496100039639) := by kernel_rfl
theorem sp_6 : DFn (LSp.cfg 500 12) 500 Try.f171 spA (spH 18389455496100039639) = some (spV 4607266093971153024 13831293102400434700, spH 15305450054213529039) := by kernel_rfl
theorem sp_7 : DFn (LSp.cfg 500 12) 500 Try.f171 spA (spH 15305450054213529039) = some (spV 13832564226928140736 4611537902845789580, spH 12221444612327018439) := by kernel_rfl
theorem sp_8 : DFn (LSp.cfg 500 12) 500 Try.f171 spA (spH 12221444612327018439) = some (spV 13828623622671413008 13827284867873513800, spH 9137439170440507839) := by kernel_rfl
theorem sp_9 : DFn (LSp.cfg 500 12) 500 Try.f171 spA (spH 9137439170440507839) = some (spV 13827843526635211696 13810950849017655040, spH 6053433728553997239) := by kernel_rfl
theorem sp_10 : DFn (LSp.cfg 500 12) 500 Try.f171 spA (spH 6053433728553997239) = some (spV 13829960480008595576 13833010185991751984, spH 2969428286667486639) := by kernel_rfl
theorem sp_11 : DFn (LSp.cfg 500 12) 500 Try.f171 spA (spH 2969428286667486639) = some (spV 13822068835359376912 13822262199738139184, spH 18332166918490527655) := by kernel_rfl
theorem sp_12 : DFn (LSp.cfg 500 12) 500 Try.f171 spA (spH 18332166918490527655) = some (spV 4608813006974432080 4598192854152445584, spH 15248161476604017055) := by kernel_rfl
theorem sp_13 : DFn (LSp.cfg 500 12) 500 Try.f171 spA (spH 15248161476604017055) = some (spV 4594767440219657536 13826569700653569440, spH 12164156034717506455) := by kernel_rfl
theorem sp_14 : DFn (LSp.cfg 500 12) 500 Try.f171 spA (spH 12164156034717506455) = some (spV 4603288333978638816 4603484288820972616, spH 9080150592830995855) := by kernel_rfl
theorem sp_15 : DFn (LSp.cfg 500 12) 500 Try.f171 spA (spH 9080150592830995855) = some (spV 13835247248069406440 13835350638895646107, spH 5996145150944485255) := by kernel_rfl
def spT : List (Nat × (Nat × (Nat × Nat))) := [(7, (13830558752551049776, (4608684551068439744, 15362738631823041023))), (15362738631823041023, (4602848713819600392, (13829467918653838968, 12278733189936530423))), (12278733189936530423, (13823248695234237888, (4604715686661395728, 9194727748050019823))), (9194727748050019823, (4601722161429101120, (13816669062821602752, 6110722306163509223))), (6110722306163509223, (4608962639542601248, (4610445780615190228, 3026716864276998623))), (3026716864276998623, (4607781139877813552, (13828392264417234552, 18389455496100039639))), (18389455496100039639, (4607266093971153024, (13831293102400434700, 15305450054213529039))), (15305450054213529039, (13832564226928140736, (4611537902845789580, 12221444612327018439))), (12221444612327018439, (13828623622671413008, (13827284867873513800, 9137439170440507839))), (9137439170440507839, (13827843526635211696, (13810950849017655040, 6053433728553997239))), (6053433728553997239, (13829960480008595576, (13833010185991751984, 2969428286667486639))), (2969428286667486639, (13822068835359376912, (13822262199738139184, 18332166918490527655))), (18332166918490527655, (4608813006974432080, (4598192854152445584, 15248161476604017055))), (15248161476604017055, (4594767440219657536, (13826569700653569440, 12164156034717506455))), (12164156034717506455, (4603288333978638816, (4603484288820972616, 9080150592830995855))), (9080150592830995855, (13835247248069406440, (13835350638895646107, 5996145150944485255)))]
theorem spT_ok : ∀ e, e ∈ spT → CallR Try.prog false 171 spA (spH e.1) (spV e.2.1 e.2.2.1) (spH e.2.2.2) := by
  intro e h
  unfold spT at h
  simp only [List.mem_cons, List.not_mem_nil, or_false] at h
  rcases h with rfl | rfl | rfl | rfl | rfl | rfl | rfl | rfl | rfl | rfl | rfl | rfl | rfl | rfl | rfl | rfl
  · exact sp_of sp_0
  · exact sp_of sp_1
  · exact sp_of sp_2
  · exact sp_of sp_3
  · exact sp_of sp_4
  · exact sp_of sp_5
  · exact sp_of sp_6
  · exact sp_of sp_7
  · exact sp_of sp_8
  · exact sp_of sp_9
  · exact sp_of sp_10
  · exact sp_of sp_11
  · exact sp_of sp_12
  · exact sp_of sp_13
  · exact sp_of sp_14
  · exact sp_of sp_15
theorem look_mem' {α : Type} : ∀ {l : List (Nat × α)} {i : Nat} {x : α}, look l i = some x → (i, x) ∈ l := fun h => look_mem h
def sPair : HeapFn
  | [.pointer (some ⟨b, 0, none⟩), .float .f64 4607182418800017408], σ =>
    match σ[b]? with
    | some (.row [.int .u64 (.ofNat a)] true none) =>
      match look spT a with
      | some (re, im, a') => some (.complex .f64 re im, σ.set b (.row [.int .u64 (Int.ofNat a')] true none))
      | none => none
    | _ => none
  | _, _ => none
theorem sPair_is {b a re im a' : Nat} {σ : AHeap} (hb : σ[b]? = some (.row [.int .u64 (Int.ofNat a)] true none)) (h : CallR Try.prog false 171 spA (spH a) (spV re im) (spH a')) :
    CallR Try.prog false 171 [.pointer (some ⟨b, 0, none⟩), .float .f64 4607182418800017408] σ (.complex .f64 re im) (σ.set b (.row [.int .u64 (Int.ofNat a')] true none)) := by
  have hlt := lt_of_some hb
  refine CallR.frameW (r := fun k => if k = 0 then b else k + σ.length) (σ0 := spH a) (args0 := spA) ⟨fun k o hk => ?_, fun k k' h1 h2 _ => ?_, fun k hk => ?_⟩ ?_ h rfl (by simp) (fun k o hk => ?_)
  · cases k with
    | zero => cases hk; exact ⟨_, _, _, _, rfl, hb, fun h => h, rfl⟩
    | succ k => simp [spH] at hk
  · simp [spH] at h1 h2; omega
  · have : k ≠ 0 := by simp [spH] at hk; omega
    rw [if_neg this]; omega
  · rfl
  · rw [List.getElem?_set] at hk
    by_cases e : b = k
    · rw [if_pos e, if_pos hlt] at hk
      cases hk
      exact .inr (.inr ⟨0, _, _, _, by simpa using e, rfl, rfl, rfl, rfl⟩)
    · rw [if_neg e] at hk
      refine .inr (.inl ⟨hk, fun k' hw => ?_⟩)
      cases k' with
      | zero => simpa using e
      | succ k' => simp [wrk, spH] at hw
theorem sPair_ok : IsHeap Try.prog false 171 false sPair := by
  have key : ∀ args σ v σ', sPair args σ = some (v, σ') → CallR Try.prog false 171 args σ v σ' ∧ σ.length ≤ σ'.length := by
    intro args σ v σ' h
    unfold sPair at h
    split at h
    · split at h
      · rename_i hb
        split at h
        · rename_i hl
          cases h
          exact ⟨sPair_is hb (spT_ok _ (look_mem hl)), by simp⟩
        · cases h
      · cases h
    · cases h
  exact ⟨fun _ _ _ _ h => (key _ _ _ _ h).1, (by intro h; cases h), fun _ _ _ _ h => (key _ _ _ _ h).2⟩
noncomputable def tsp : Tab := t1.addH 171 false sPair
theorem tsp_ok : tsp.Ok Try.prog false := Tab.Ok.addH t1_ok sPair_ok
end Go.Lk
