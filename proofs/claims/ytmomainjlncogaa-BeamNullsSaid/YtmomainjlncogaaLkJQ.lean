import Derived.Test.YtmomainjlncogaaLkJP
import Derived.Test.YtmomainjlncogaaLkPT
import Derived.Test.YtmomainjlncogaaLkBNL
import Derived.Test.YtmomainjlncogaaLkPA
import Derived.Test.YtmomainjlncogaaLkJB
import Derived.ChangeSlices
import Derived.Test.YtmomainjlncogaaLkJA
section
/- Null: own and the document's are one. -/
namespace Go.Lk
open Go.Proofs Ieee
set_option maxRecDepth 100000
set_option linter.unusedVariables false
set_option linter.unusedSimpArgs false
/-- Two answers that told takes for one. -/
structure Alike (x y : An) : Prop where
  n : x.n = y.n
  e : x.e = y.e
  le : x.n ≤ 16384
  z : x.n = 0 → x.e = 0 ∨ x.e = 2 ∨ x.e = 3 ∨ x.e = 6 ∨ x.e = 40
  ok : 0 < x.n → x.e = 0
  same : ∀ i, i < x.n → gSame_0 (x.a i) (x.b i) (y.a i) (y.b i) = true
theorem set_same {σ : AHeap} {b : Nat} {o : AObj} (h : σ[b]? = some o) : σ.set b o = σ := by
  apply List.ext_getElem?
  intro k
  rw [List.getElem?_set]
  by_cases hk : b = k
  · subst hk; rw [if_pos rfl, if_pos (lt_of_some h), h]
  · rw [if_neg hk]
theorem told_side {x y : An} (h : Alike x y) {σ : AHeap} {b b2 c : Nat} (g1 : σ[c]? = some (aObj 2 pRow y)) (g2 : σ[b]? = some (aObj 1 xRow x)) (g3 : σ[b2]? = some (aObj 1 xRow x)) (n1 : b ≠ b2) (n2 : b ≠ c) (n3 : b2 ≠ c) :
    sToldW [.slice (aAd b x.n 1) x.n x.n, .slice (aAd b2 x.n 1) x.n x.n, .int .i64 x.e, .int .i64 x.e, .slice (aAd c y.n 2) y.n y.n, .int .i64 y.e] σ = some (.bool true, σ.set b .dead) := by
  obtain ⟨hn, he, hle, hz, hok, hs⟩ := h
  obtain ⟨xn, xa, xb, xe⟩ := x
  obtain ⟨yn, ya, yb, ye⟩ := y
  simp only at hn he hle hz hok hs
  subst hn he
  cases xn with
  | zero =>
    have e2 : aObj 1 xRow ⟨0, xa, xb, xe⟩ = .dead := rfl
    rw [e2] at g2
    rw [set_same g2]
    exact sToldW_err (hz rfl) σ
  | succ n =>
    have := hok (Nat.succ_pos _)
    subst this
    exact sToldW_row (Nat.succ_pos n) hle hs hs g1 g2 g3 n1 n2 n3
theorem err_alike {e : Int} (h : e = 0 ∨ e = 2 ∨ e = 3 ∨ e = 6 ∨ e = 40) : Alike (anErr e) (anErr e) := ⟨rfl, rfl, Nat.zero_le _, fun _ => h, fun h => absurd h (Nat.lt_irrefl 0), fun i h => absurd h (Nat.not_lt_zero i)⟩
theorem rfin_test {x : Nat} (h : Canon x) : cRFin_0 x = isFin x := by
  unfold cRFin_0
  rcases h.three with h' | ⟨s, rfl⟩ | rfl
  · rw [feq_self, fin_num h', h']
    have hr : rg x < 2047 * 2 ^ 52 := of_decide_eq_true h'
    have hm : isFin 9218868437227405311 = true := by decide
    have hm2 : isFin 18442240474082181119 = true := by decide
    have h3 : fxr (rg x) ≤ fxr 9218868437227405311 := fxr_le.2 (by omega)
    have e1 : fx 9218868437227405311 = (fxr 9218868437227405311 : Int) := by unfold fx; rfl
    have e2 : fx 18442240474082181119 = -(fxr 9218868437227405311 : Int) := by unfold fx; rfl
    have hx : fx x ≤ (fxr 9218868437227405311 : Int) ∧ -(fxr 9218868437227405311 : Int) ≤ fx x := by
      unfold fx sgn
      generalize fxr 9218868437227405311 = M at h3
      split <;> constructor <;> omega
    rw [fle_fin h' hm, fge_fin h' hm2, e1, e2, decide_eq_true hx.1, decide_eq_true hx.2]
    rfl
  · cases s <;> decide +kernel
  · decide +kernel
theorem nf_test {x : Nat} (h : Canon x) : cNf_0 x = !isFin x := by
  unfold cNf_0
  rw [fin_test h]
theorem fturn_eq {x : Nat} (h : Canon x) : fturn x = aneg false x := by
  rw [aneg_eq]
  unfold fturn
  cases hn : isNaN x
  · rw [cond_false]
    have hr : rg x ≤ 2047 * 2 ^ 52 := by
      rw [isNaN_iff] at hn
      have := of_decide_eq_false hn
      omega
    have h1 : fneg (wd (sg x) (rg x)) = wd (!sg x) (rg x) := fneg_wd hr
    rw [wd_sg h.lt] at h1
    exact h1.symm
  · rw [cond_true]
    unfold fneg
    rw [hn]; rfl

theorem canon_0 : Canon 0 := by constructor <;> decide
theorem canon_1 : Canon 4607182418800017408 := by constructor <;> decide
theorem pc_canon (W : Nat → Nat × Nat) : ∀ i k, Canon (pc W i k).1 ∧ Canon (pc W i k).2
  | 0, 0 => by simp only [pc]; exact ⟨canon_1, canon_0⟩
  | 0, k + 1 => by simp only [pc]; exact ⟨canon_0, canon_0⟩
  | i + 1, 0 => by simp only [pc]; exact ⟨Canon.fsub _ _, Canon.fsub _ _⟩
  | i + 1, k + 1 => by
    simp only [pc]
    split
    · exact ⟨Canon.fsub _ _, Canon.fsub _ _⟩
    · split
      · exact pc_canon W i i
      · exact ⟨canon_0, canon_0⟩
theorem nW_rW {d : Nat} {x : Nat → Nat} {i : Nat} (hx : Canon (x i)) : nW d x i = rW d x i := by
  have e : cRStep_0 d (x i) = cStep_0 d (x i) := by unfold cRStep_0 cStep_0; rw [turn_im hx]
  unfold nW rW
  rw [e, turn_re (x := cStep_0 d (x i)) (Canon.fmul _ _), turn_im (x := cStep_0 d (x i)) (Canon.fmul _ _)]
theorem nBad_all {x : Nat → Nat} : ∀ {n : Nat}, (∀ i, i < n → Canon (x i)) → ∀ d, Canon d → (nBad (fun _ => d) 1 || nBad x n) = !okN d x n
  | 0, _, d, hd => by
    unfold nBad nIdx okN
    simp only [nIdx]
    rw [nf_test hd, rfin_test hd]
    cases isFin d <;> rfl
  | n + 1, h, d, hd => by
    have ih := nBad_all (n := n) (fun i hi => h i (by omega)) d hd
    have hn := nf_test (h n (by omega))
    have hr := rfin_test (h n (by omega))
    have e : nBad x (n + 1) = (nBad x n || cNf_0 (x n)) := by
      unfold nBad
      show (match nIdx x n with | some j => some j | none => bif cNf_0 (x n) then some n else none).isSome = _
      cases nIdx x n with
      | some j => rfl
      | none => cases cNf_0 (x n) <;> rfl
    show _ = !(bif okN d x n then cRFin_0 (x n) else false)
    rw [e, ← Bool.or_assoc, ih, hn, hr]
    cases okN d x n <;> cases isFin (x n) <;> rfl
theorem conj_zf {d : Nat} {x : Nat → Nat} {n : Nat} (h : ∀ i, i < n → Canon (x i)) : conjC (nW d x) n (n + 1) = zf (cjR (pc (rW d x) n)) n := by
  funext q
  have e : pc (rW d x) n q = pc (nW d x) n q := pc_congr n (fun j hj => (nW_rW (h j hj)).symm) q
  unfold conjC zf cjR
  rw [e]
  by_cases g : q < n + 1
  · have : Nat.blt q (n + 1) = true := by rw [Nat.blt_eq]; exact g
    rw [if_pos g, this, cond_true]
    unfold nRc_0 nCj_0
    rw [fturn_eq (pc_canon _ _ _).2]
  · have : Nat.blt q (n + 1) = false := by cases hb : Nat.blt q (n + 1); rfl; rw [Nat.blt_eq] at hb; omega
    rw [if_neg g, this, cond_false, pc_hi _ n q (by omega)]
theorem nu_alike {d : Nat} {x : Nat → Nat} {n : Nat} {mi : Int} (hd : Canon d) (h : ∀ i, i < n → Canon (x i)) : Alike (nuOwn d x n mi) (nuRef d x n mi) := by
  unfold nuOwn nuRef
  rw [nBad_all h d hd, conj_zf h]
  unfold nuAn
  cases h1 : decide (mi ≤ iN n)
  · cases h2 : decide (mi > 64)
    · cases !okN d x n
      · have g2 := of_decide_eq_false h2
        exact ⟨rfl, rfl, by show mi.toNat ≤ 16384; omega, fun _ => .inl rfl, fun _ => rfl, fun i _ => same_refl _ _⟩
      · exact err_alike (by simp)
    · exact err_alike (by simp)
  · exact err_alike (by simp)
end Go.Lk
end

section
/- BeamNulls, joined. -/
namespace Go.Lk
open Go.Proofs
set_option maxRecDepth 100000
set_option linter.unusedVariables false
set_option linter.unusedSimpArgs false
def bnT : AObj := .row [.float .f64 4635118810238550016] true none
def bnC (x : Nat → Nat) (n : Nat) : AObj := .row (rowOf (fun i => [.float .f64 (zx x n i)]) (n + 1)) true (some 1)
theorem zx_lt {x : Nat → Nat} {n i : Nat} (h : i < n) : zx x n i = x i := by
  unfold zx
  have : Nat.blt i n = true := by rw [Nat.blt_eq]; exact h
  rw [this]; rfl
theorem zx_n (x : Nat → Nat) (n : Nat) : zx x n n = 4635118810238550016 := by
  unfold zx
  have : Nat.blt n n = false := by cases h : Nat.blt n n; rfl; rw [Nat.blt_eq] at h; omega
  rw [this]; rfl
theorem zx_row (x : Nat → Nat) (n : Nat) : rowOf (fun i => [Value.float .f64 (x i)]) n ++ [.float .f64 4635118810238550016] = rowOf (fun i => [.float .f64 (zx x n i)]) (n + 1) := by
  have h : rowOf (fun i => [Value.float .f64 (zx x n i)]) n = rowOf (fun i => [Value.float .f64 (x i)]) n := rowOf_congr fun i hi => by rw [zx_lt hi]
  rw [rowOf_succ, zx_n, h]
theorem bn_same {x y : Nat → Nat} {σ : AHeap} {b1 b2 c1 c2 M N n : Nat} {r1 r2 : Bool} {o1 o2 : Option Nat} (g1 : σ[b1]? = some (.row (rowOf (fun i => [.float .f64 (x i)]) M) r1 o1)) (g2 : σ[b2]? = some (.row (rowOf (fun i => [.float .f64 (y i)]) N) r2 o2))
    (hxy : ∀ i, i < n → y i = x i) (h1 : n ≤ M) (h2 : n ≤ N) (h3 : n ≤ 65536) : sSamF [.slice (some ⟨b1, 0, some 1⟩) n c1, .slice (some ⟨b2, 0, some 1⟩) n c2] σ = some (.bool true, σ) := by
  unfold sSamF
  rw [if_pos (show SmF _ _ from ⟨b1, c1, M, r1, o1, x, g1, .inl ⟨b2, c2, N, n, r2, o2, y, g2, hxy, h1, h2, h3, rfl⟩⟩)]
theorem bn_pos (opn : Option Nat) (x : Nat → Nat) (M n cap : Nat) (mi : Int) (d : Nat) (hn : n ≤ 16384) (hM : n ≤ M) (h0 : 0 < n) (hd : Canon d) (hx : ∀ i, i < n → Canon (x i)) :
    ∃ σ', CallR Try.prog false 29 [.int .i64 mi, .float .f64 d, .slice (some ⟨0, 0, some 1⟩) n cap] [nA opn x M] (.bool true) σ' := by
  have al := nu_alike (mi := mi) hd hx
  have co : nuOwn d (zx x n) n mi = nuOwn d x n mi := nuOwn_congr fun i hi => zx_lt hi
  have s4 := sNu_side (z := 2) (row := pRow) (h := nuRef) (nl := true) (b := 0) (cap := cap) (mi := mi) (d := d) (M := M) (x := x) (σ := [nA opn x M, .row [] true none, .dead, bnT, bnC x n]) rfl hM (show n ≤ 65536 by omega) (fun y hy => nuRef_congr hy)
  have s3 := fun o => sNu_side (z := 1) (row := xRow) (h := nuOwn) (nl := false) (b := 4) (cap := n + 1) (mi := mi) (d := d) (M := n + 1) (n := n) (x := zx x n) (σ := [nA opn x M, .row [] true none, .dead, bnT, bnC x n, o]) rfl (by omega) (show n ≤ 65536 by omega) (fun y hy => nuOwn_congr hy)
  have s2 := fun o p => sNu_side (z := 1) (row := xRow) (h := nuOwn) (nl := false) (b := 4) (cap := n + 1) (mi := mi) (d := d) (M := n + 1) (n := n) (x := zx x n) (σ := [nA opn x M, .row [] true none, .dead, bnT, bnC x n, o, p]) rfl (by omega) (show n ≤ 65536 by omega) (fun y hy => nuOwn_congr hy)
  rw [co] at s3 s2
  have s1 := told_side al (σ := [nA opn x M, .row [] true none, .dead, bnT, bnC x n, aObj 2 pRow (nuRef d x n mi), aObj 1 xRow (nuOwn d x n mi), aObj 1 xRow (nuOwn d x n mi)]) (b := 6) (b2 := 7) (c := 5) rfl rfl rfl (by decide) (by decide) (by decide)
  have s0 := bn_same (b1 := 4) (b2 := 0) (c1 := n + 1) (c2 := cap) (M := n + 1) (N := M) (n := n) (x := zx x n) (y := x) (σ := [nA opn x M, .row [] true none, .dead, bnT, bnC x n, aObj 2 pRow (nuRef d x n mi), .dead, aObj 1 xRow (nuOwn d x n mi)]) rfl rfl (fun i hi => (zx_lt hi).symm) (by omega) hM (by omega)
  have s5 : aAppend Try.prog [nA opn x M, .row [] true none, .row (rowOf (fun i => [.float .f64 (x i)]) n) true (some 1), bnT] [83, 83] [.slice (some ⟨2, 0, some 1⟩) n n, .slice (some ⟨3, 0, some 1⟩) 1 1] = some (.slice (some ⟨4, 0, some 1⟩) (n + 1) (n + 1), [nA opn x M, .row [] true none, .dead, bnT, bnC x n]) :=
    append_many (P := Try.prog) (σ := [nA opn x M, .row [] true none, .row (rowOf (fun i => [.float .f64 (x i)]) n) true (some 1), bnT]) (t := 83) (t2 := 83) (ts := []) (rest := []) (b := 2) (N := n) (n := 1) (z := 1) (F := fun i => [.float .f64 (x i)]) (F' := fun i => [.float .f64 (zx x n i)]) (x := .slice (some ⟨3, 0, some 1⟩) 1 1) (rw' := true) (opn := some 1)
      (by kernel_rfl) rfl (.inl rfl) (by kernel_rfl) rfl (zx_row x n) (fun _ => rfl) rfl (by decide) (by omega)
  have s6 : aAppend Try.prog [nA opn x M, .row [] true none] [83, 83] [.slice (some ⟨1, 0, some 1⟩) 0 0, .slice (some ⟨0, 0, some 1⟩) n cap] = some (.slice (some ⟨2, 0, some 1⟩) n n, [nA opn x M, .row [] true none, .row (rowOf (fun i => [.float .f64 (x i)]) n) true (some 1)]) := by
    have h := append_many (P := Try.prog) (σ := [nA opn x M, .row [] true none]) (t := 83) (t2 := 83) (ts := []) (rest := []) (b := 1) (N := 0) (n := n) (z := 1) (F := fun i => [.float .f64 (x i)]) (F' := fun i => [.float .f64 (x i)]) (x := .slice (some ⟨0, 0, some 1⟩) n cap) (rw' := true) (opn := none)
      (by kernel_rfl) rfl (.inl rfl) (cells_row (σ := [nA opn x M, .row [] true none]) (b := 0) (z := 1) (F := fun i => [Value.float .f64 (x i)]) (m := M) rfl (fun _ => rfl) hM 1) rfl (by rw [Nat.zero_add]; rfl) (fun _ => rfl) (rowOf_all (fun _ => rfl) _) h0 (by omega)
    rw [Nat.zero_add] at h
    exact h
  have hz : feq (zx x n n) 4635118810238550016 = true := by rw [zx_n]; decide +kernel
  obtain ⟨en, ee, -, -, -, -⟩ := al
  generalize nuOwn d x n mi = y1 at *
  generalize nuRef d x n mi = y2 at *
  obtain ⟨n1, a1, b1, e1⟩ := y1
  obtain ⟨n2, a2, b2, e2⟩ := y2
  simp only at en ee
  subst en ee
  cases n1 with
  | zero => exact ⟨_, nlD_p0 opn x M n cap mi d 0 e1 .dead 0 e1 .dead 0 e1 .dead .dead hn hM h0 hz s0 s1 (s2 _ _) (s3 _) s4 s5 s6⟩
  | succ l => exact ⟨_, nlC_p0 opn x M n cap mi d (l + 1) e1 _ (l + 1) e1 _ (l + 1) e1 _ .dead hn hM h0 hz s0 s1 (s2 _ _) (s3 _) s4 s5 s6⟩
def bnU : AObj := .row [.float .f64 4635118810238550016] true (some 1)
theorem bn_zero (opn : Option Nat) (x : Nat → Nat) (M cap : Nat) (mi : Int) (d : Nat) (hd : Canon d) :
    ∃ σ', CallR Try.prog false 29 [.int .i64 mi, .float .f64 d, .slice (some ⟨0, 0, some 1⟩) 0 cap] [nA opn x M] (.bool true) σ' := by
  have al := nu_alike (x := x) (n := 0) (mi := mi) hd (fun i hi => by omega)
  have co : nuOwn d (zx x 0) 0 mi = nuOwn d x 0 mi := nuOwn_congr fun i hi => by omega
  have s4 := sNu_side (z := 2) (row := pRow) (h := nuRef) (nl := true) (b := 0) (n := 0) (cap := cap) (mi := mi) (d := d) (M := M) (x := x) (σ := [nA opn x M, .row [] true none, bnT, bnU]) rfl (Nat.zero_le _) (by decide) (fun y hy => nuRef_congr hy)
  have s3 := fun o => sNu_side (z := 1) (row := xRow) (h := nuOwn) (nl := false) (b := 3) (cap := 1) (mi := mi) (d := d) (M := 1) (n := 0) (x := zx x 0) (rw' := true) (opn := some 1) (σ := [nA opn x M, .row [] true none, bnT, bnU, o]) rfl (by omega) (by decide) (fun y hy => nuOwn_congr hy)
  have s2 := fun o p => sNu_side (z := 1) (row := xRow) (h := nuOwn) (nl := false) (b := 3) (cap := 1) (mi := mi) (d := d) (M := 1) (n := 0) (x := zx x 0) (rw' := true) (opn := some 1) (σ := [nA opn x M, .row [] true none, bnT, bnU, o, p]) rfl (by omega) (by decide) (fun y hy => nuOwn_congr hy)
  rw [co] at s3 s2
  have s1 := told_side al (σ := [nA opn x M, .row [] true none, bnT, bnU, aObj 2 pRow (nuRef d x 0 mi), aObj 1 xRow (nuOwn d x 0 mi), aObj 1 xRow (nuOwn d x 0 mi)]) (b := 5) (b2 := 6) (c := 4) rfl rfl rfl (by decide) (by decide) (by decide)
  have s0 := bn_same (b1 := 3) (b2 := 0) (c1 := 1) (c2 := cap) (M := 1) (N := M) (n := 0) (x := zx x 0) (y := x) (r1 := true) (o1 := some 1) (σ := [nA opn x M, .row [] true none, bnT, bnU, aObj 2 pRow (nuRef d x 0 mi), .dead, aObj 1 xRow (nuOwn d x 0 mi)]) rfl rfl (fun i hi => by omega) (by omega) (by omega) (by decide)
  obtain ⟨en, ee, -, -, -, -⟩ := al
  generalize nuOwn d x 0 mi = y1 at *
  generalize nuRef d x 0 mi = y2 at *
  obtain ⟨n1, a1, b1, e1⟩ := y1
  obtain ⟨n2, a2, b2, e2⟩ := y2
  simp only at en ee
  subst en ee
  cases n1 with
  | zero => exact ⟨_, nlX_p0 opn x M cap mi d 0 e1 .dead 0 e1 .dead 0 e1 .dead .dead s0 s1 (s2 _ _) (s3 _) s4⟩
  | succ l => exact ⟨_, nlY_p0 opn x M cap mi d (l + 1) e1 _ (l + 1) e1 _ (l + 1) e1 _ .dead s0 s1 (s2 _ _) (s3 _) s4⟩
theorem bn_samen {x : Nat → Nat} {σ : AHeap} {b1 c1 M : Nat} {r1 : Bool} {o1 : Option Nat} (g1 : σ[b1]? = some (.row (rowOf (fun i => [.float .f64 (x i)]) M) r1 o1)) :
    sSamF [.slice (some ⟨b1, 0, some 1⟩) 0 c1, .slice none 0 0] σ = some (.bool true, σ) := by
  unfold sSamF
  rw [if_pos (show SmF _ _ from ⟨b1, c1, M, r1, o1, x, g1, .inr rfl⟩)]
theorem bn_nil (mi : Int) (d : Nat) (hd : Canon d) :
    ∃ σ', CallR Try.prog false 29 [.int .i64 mi, .float .f64 d, .slice none 0 0] [] (.bool true) σ' := by
  have al := nu_alike (x := fun _ => 0) (n := 0) (mi := mi) hd (fun i hi => by omega)
  have co : nuOwn d (zx (fun _ => 0) 0) 0 mi = nuOwn d (fun _ => 0) 0 mi := nuOwn_congr fun i hi => by omega
  have s4 : sRNull [.int .i64 mi, .float .f64 d, .slice none 0 0] [.row [] true none, bnT, bnU] = some (.tuple #[.slice (aAd 3 (nuRef d (fun _ => 0) 0 mi).n 2) (nuRef d (fun _ => 0) 0 mi).n (nuRef d (fun _ => 0) 0 mi).n, .int .i64 (nuRef d (fun _ => 0) 0 mi).e], [.row [] true none, bnT, bnU, aObj 2 pRow (nuRef d (fun _ => 0) 0 mi)]) := by
    show some (aVal 3 2 _, _) = _
    rw [aVal_eq]; rfl
  have s3 := fun o => sNu_side (z := 1) (row := xRow) (h := nuOwn) (nl := false) (b := 2) (cap := 1) (mi := mi) (d := d) (M := 1) (n := 0) (x := zx (fun _ => 0) 0) (rw' := true) (opn := some 1) (σ := [.row [] true none, bnT, bnU, o]) rfl (by omega) (by decide) (fun y hy => nuOwn_congr hy)
  have s2 := fun o p => sNu_side (z := 1) (row := xRow) (h := nuOwn) (nl := false) (b := 2) (cap := 1) (mi := mi) (d := d) (M := 1) (n := 0) (x := zx (fun _ => 0) 0) (rw' := true) (opn := some 1) (σ := [.row [] true none, bnT, bnU, o, p]) rfl (by omega) (by decide) (fun y hy => nuOwn_congr hy)
  rw [co] at s3 s2
  have s1 := told_side al (σ := [.row [] true none, bnT, bnU, aObj 2 pRow (nuRef d (fun _ => 0) 0 mi), aObj 1 xRow (nuOwn d (fun _ => 0) 0 mi), aObj 1 xRow (nuOwn d (fun _ => 0) 0 mi)]) (b := 4) (b2 := 5) (c := 3) rfl rfl rfl (by decide) (by decide) (by decide)
  have s0 := bn_samen (b1 := 2) (c1 := 1) (M := 1) (x := zx (fun _ => 0) 0) (r1 := true) (o1 := some 1) (σ := [.row [] true none, bnT, bnU, aObj 2 pRow (nuRef d (fun _ => 0) 0 mi), .dead, aObj 1 xRow (nuOwn d (fun _ => 0) 0 mi)]) rfl
  obtain ⟨en, ee, -, -, -, -⟩ := al
  generalize nuOwn d (fun _ => 0) 0 mi = y1 at *
  generalize nuRef d (fun _ => 0) 0 mi = y2 at *
  obtain ⟨n1, a1, b1, e1⟩ := y1
  obtain ⟨n2, a2, b2, e2⟩ := y2
  simp only at en ee
  subst en ee
  cases n1 with
  | zero => exact ⟨_, nlW_p0 mi d 0 e1 .dead 0 e1 .dead 0 e1 .dead .dead s0 s1 (s2 _ _) (s3 _) s4⟩
  | succ l => exact ⟨_, nlZ_p0 mi d (l + 1) e1 _ (l + 1) e1 _ (l + 1) e1 _ .dead s0 s1 (s2 _ _) (s3 _) s4⟩
theorem bn_all (opn : Option Nat) (x : Nat → Nat) (M n cap : Nat) (mi : Int) (d : Nat) (hM : n ≤ M) (hd : Canon d) (hx : ∀ i, i < n → Canon (x i)) :
    ∃ σ', CallR Try.prog false 29 [.int .i64 mi, .float .f64 d, .slice (some ⟨0, 0, some 1⟩) n cap] [nA opn x M] (.bool true) σ' := by
  rcases Nat.lt_or_ge 16384 n with h | h
  · exact ⟨_, nlG_p0 opn x M n cap mi d h hM⟩
  · rcases Nat.eq_zero_or_pos n with rfl | h0
    · exact bn_zero opn x M cap mi d hd
    · exact bn_pos opn x M n cap mi d h hM h0 hd hx
end Go.Lk
end

section
/- Arguments that lie in memory. -/
namespace Go.Lk
open Go.WideShapes Go.ChangeShapes
set_option linter.unusedSimpArgs false
set_option linter.unusedVariables false
/-- A row of cells that is only read. -/
theorem row_arg {W : World} {a : Addr} {vs : List Value} (hs : a.spot = none) (hb : ∃ c el fr, W.heap[a.block]? = some (.cells c el fr)) (hf : ∀ (j : Nat) (v : Value), vs[j]? = some v → ∃ c, W.cell? (a.add j) = some c ∧ VR false [] v c) :
    HR false (old W) [some ⟨a.block, if vs.length = 0 then 0 else a.off, vs.length, 0, 0⟩] [.row vs false none] W := by
  obtain ⟨c, el, ⟨lo, hi⟩, hb⟩ := hb
  have one : ∀ (b : Nat) (o : AObj), [AObj.row vs false none][b]? = some o → b = 0 ∧ o = .row vs false none := by
    intro b o h
    have := lt_of_some h
    have e0 : b = 0 := by simpa using this
    subst e0
    simp at h
    exact ⟨rfl, h.symm⟩
  have hcell : ∀ (j : Nat) (v : Value), vs[j]? = some v → ∃ x, c[a.off + j]? = some x ∧ VR false [] v x := by
    intro j v hj
    obtain ⟨x, hx, hv⟩ := hf j v hj
    refine ⟨x, ?_, hv⟩
    unfold World.cell? at hx
    have hbl : (a.add j).block = a.block := by unfold Addr.add; split <;> rfl
    have hof : (a.add j).off = a.off + j := by
      unfold Addr.add
      split
      · rename_i h; omega
      · rfl
    have hsp : (a.add j).spot = none := by
      unfold Addr.add
      split
      · exact hs
      · rfl
    rw [hbl, hb, hof, hsp] at hx
    simpa using hx
  refine ⟨rfl, fun _ h => h, fun b o h _ => ?_, fun b o e h he => ?_, fun b b' o o' e e' h h' _ _ ho => ?_⟩
  · obtain ⟨rfl, rfl⟩ := one b o h
    exact ⟨_, rfl⟩
  · obtain ⟨rfl, rfl⟩ := one b o h
    simp only [List.getElem?_cons_zero, Option.some.injEq] at he
    subst he
    refine ⟨rfl, rfl, c, el, lo, hi, hb, ?_, ⟨?_, fun i v hi => ?_⟩, fun h => by cases h⟩
    · show (if vs.length = 0 then 0 else a.off) + vs.length + 0 * 0 ≤ c.size
      split
      · omega
      · obtain ⟨x, hx, _⟩ := hcell (vs.length - 1) vs[vs.length - 1] (List.getElem?_eq_getElem (by omega))
        have := (Array.getElem?_eq_some_iff.1 hx).1
        omega
    · simp only [List.length_take, List.length_drop, Array.length_toList]
      split
      · omega
      · obtain ⟨x, hx, _⟩ := hcell (vs.length - 1) vs[vs.length - 1] (List.getElem?_eq_getElem (by omega))
        have := (Array.getElem?_eq_some_iff.1 hx).1
        omega
    · have hlt := lt_of_some hi
      obtain ⟨x, hx, hv⟩ := hcell i v hi
      refine ⟨x, ?_, hv.mono (fun b e h => by simp at h)⟩
      rw [List.getElem?_take, if_pos hlt, List.getElem?_drop]
      have : ¬ vs.length = 0 := by omega
      simp only [this, if_false]
      simpa using hx
  · obtain ⟨rfl, rfl⟩ := one b o h
    cases ho
/-- The slice that holds it. -/
theorem slice_arg {W : World} {a : Addr} {vs : List Value} {z len cap : Nat} (hs : a.spot = none) (hl : len ≤ cap) (hz : 0 < z) (hv : vs.length = cap * z) :
    VR false [some ⟨a.block, if vs.length = 0 then 0 else a.off, vs.length, 0, 0⟩] (.slice (some ⟨0, 0, some z⟩) len cap) (.slice (some a) len cap) := by
  by_cases h0 : cap = 0
  · subst h0
    have : len = 0 := by omega
    subst this
    exact .sempty (e := ⟨a.block, if vs.length = 0 then 0 else a.off, vs.length, 0, 0⟩) rfl a
  · have hn : ¬ vs.length = 0 := by
      rw [hv]
      have := Nat.mul_pos (show 0 < cap by omega) hz
      omega
    have h := VR.slice (ex := false) (μ := [some (⟨a.block, a.off, vs.length, 0, 0⟩ : Ent)]) (b := 0) (o := 0) (sz := z) (len := len) (cap := cap) (cap' := cap) (e := ⟨a.block, a.off, vs.length, 0, 0⟩) rfl (.inl rfl)
    simp only [hn, if_false]
    have ea : a = ⟨a.block, a.off + 0, none⟩ := by cases a; simp at hs ⊢; exact hs
    rw [ea]
    exact h
/-- What a slice argument is. -/
theorem wide_slice {P : Program} {W : World} {r : Reach} {base : Nat} {t e : TypeId} {v : Value} (ht : P.underlying t = some (.slice e)) (h : Value.okWide P W r base t v) :
    v = .slice none 0 0 ∨ ∃ a len cap, v = .slice (some a) len cap ∧ len ≤ cap ∧ a.spot = none ∧ ∃ c el fr, W.heap[a.block]? = some (.cells c el fr) := by
  have h1 : Cell.ok P W r base t v := by
    have h2 : Cell.okWide P W r base t v := by
      unfold Value.okWide at h
      rw [ht] at h
      exact h
    unfold Cell.okWide at h2
    rw [ht] at h2
    cases v <;> exact h2
  unfold Cell.ok at h1
  rw [ht] at h1
  cases v with
  | slice a len cap =>
    cases a with
    | none =>
      cases len with
      | zero => cases cap with
        | zero => exact .inl rfl
        | succ n => exact h1.elim
      | succ n => exact h1.elim
    | some a =>
      obtain ⟨k1, k2, _, k3, row, cells, k4, _⟩ := h1
      refine .inr ⟨a, len, cap, rfl, k1, k3, ?_⟩
      unfold World.shape? at k4
      split at k4
      · rename_i c el fr hh; exact ⟨c, el, fr, hh⟩
      · cases k4
  | _ => exact h1.elim
/-- A slice of whole numbers. -/
theorem ints_arg {H : Type} {enc : TypeId × Value → H} {P : Program} {W : World} {r : Reach} {base b2 : Nat} {held : Bool} {t e : TypeId} {k : IntKind} {v : Value} {d : DataW H} {ps : List MemPlace} (ht : P.underlying t = some (.slice e)) (he : P.underlying e = some (.int k)) (hc : P.cellsOf e = 1)
    (hok : Value.okWide P W r base t v) (h : ∃ m, DataW.trod enc P W b2 (fun _ => true) held m t v.cells.toList = some (d, ps)) :
    v = .slice none 0 0 ∨ ∃ (w : Nat → Int) (len cap : Nat) (μ : List (Option Ent)), len ≤ cap ∧ HR false (old W) μ [.row (rowOf (fun i => [.int k (w i)]) cap) false none] W ∧ VR false μ (.slice (some ⟨0, 0, some 1⟩) len cap) v := by
  rcases wide_slice ht hok with rfl | ⟨a, len, cap, rfl, hl, hs, hb⟩
  · exact .inl rfl
  · right
    obtain ⟨m, h⟩ := h
    rcases open_ints ht he hc h with ⟨h0, _⟩ | ⟨a', len', cap', zs, h0, _, _, _, hz, _, hcell, _⟩
    · simp [Value.cells] at h0
    · simp only [Value.cells, List.cons.injEq, Value.slice.injEq, Option.some.injEq, and_true] at h0
      obtain ⟨rfl, rfl, rfl⟩ := h0
      simp only [if_true] at hz
      have hlen : (rowOf (fun i => [Value.int k (zs.getD i 0)]) cap).length = cap * 1 := rowOf_len (f := fun i => [Value.int k (zs.getD i 0)]) (s := 1) (fun _ => rfl) cap
      have hget : ∀ (j : Nat) (v : Value), (rowOf (fun i => [Value.int k (zs.getD i 0)]) cap)[j]? = some v → j < cap ∧ v = .int k (zs.getD j 0) := by
        intro j v hj
        have hlt := lt_of_some hj
        rw [hlen, Nat.mul_one] at hlt
        have h1 := rowOf_at (f := fun i => [Value.int k (zs.getD i 0)]) (s := 1) (fun _ => rfl) (k := j) hlt
        have h2 := congrArg (fun l => l[0]?) h1
        simp only [List.getElem?_take, List.getElem?_drop, Nat.mul_one, Nat.add_zero, hj] at h2
        simp at h2
        exact ⟨hlt, h2⟩
      refine ⟨fun i => zs.getD i 0, len, cap, _, hl, row_arg hs hb (fun j v hj => ?_), slice_arg (W := W) hs hl (by decide) hlen⟩
      obtain ⟨hlt, rfl⟩ := hget j v hj
      exact ⟨_, hcell j (by omega), .int _ _⟩
theorem addr_add (a : Addr) (n m : Nat) : (a.add n).add m = a.add (n + m) := by
  unfold Addr.add
  by_cases hn : n = 0
  · subst hn; simp
  · by_cases hm : m = 0
    · subst hm; simp [hn]
    · have : ¬ n + m = 0 := by omega
      simp [hn, hm, this, Nat.add_assoc]
theorem trod_float {H : Type} {enc : TypeId × Value → H} {P : Program} {w : World} {base : Nat} {spare : Nat → Bool} {held : Bool} {fuel : Nat} {t : TypeId} {cs : List Value} {x : DataW H × List MemPlace} {k : FloatKind} (ht : P.underlying t = some (.float k)) (h : DataW.trod enc P w base spare held fuel t cs = some x) : ∃ b, cs = [.float k b] := by
  cases fuel with
  | zero => simp [DataW.trod] at h
  | succ n =>
    unfold DataW.trod at h
    rw [ht] at h
    split at h <;> simp_all
/-- The cells of a slice's elements. -/
theorem slice_cells {H : Type} {enc : TypeId × Value → H} {P : Program} {W : World} {b2 : Nat} {held : Bool} {t e : TypeId} {m len cap s : Nat} {a : Addr} {x : DataW H × List MemPlace} (ht : P.underlying t = some (.slice e)) (hc : P.cellsOf e = s)
    (h : DataW.trod enc P W b2 (fun _ => true) held m t [.slice (some a) len cap] = some x) (i : Nat) (hi : i < cap) :
    ∃ cs n y, cs.length = s ∧ (∀ j, j < s → W.cell? (a.add (i * s + j)) = cs[j]?) ∧ DataW.trod enc P W b2 (fun _ => true) held n e cs = some y := by
  rcases DataW.trod_slice ht h with ⟨h0, _⟩ | ⟨a', len', cap', elems, rest, n, _, h0, _, _, hl, _, hlen, hel, hsp, _⟩
  · simp at h0
  · simp only [List.cons.injEq, Value.slice.injEq, Option.some.injEq, and_true] at h0
    obtain ⟨rfl, rfl, rfl⟩ := h0
    obtain ⟨hrl, hr⟩ := hsp rfl
    have hb : ∃ y, (W.cells? b2 (a.add (i * P.cellsOf e)) (P.cellsOf e)).bind (DataW.trod enc P W b2 (fun _ => true) held n e) = some y := by
      by_cases h1 : i < len
      · rw [hel i h1]
        exact ⟨_, List.getElem?_eq_getElem (by omega)⟩
      · have := hr (i - len) (by omega)
        rw [show len + (i - len) = i by omega] at this
        rw [this]
        exact ⟨_, List.getElem?_eq_getElem (by omega)⟩
    obtain ⟨y, hy⟩ := hb
    rw [Option.bind_eq_some_iff] at hy
    obtain ⟨cs, h1, h2⟩ := hy
    obtain ⟨_, h3, h4⟩ := World.cells?_some h1
    rw [hc] at h3 h4
    exact ⟨cs, n, y, h3, fun j hj => by rw [← h4 j hj, addr_add], h2⟩
def cellF (v : Option Value) : Nat := match v with | some (.float .f64 b) => can b | _ => 0
/-- A slice of points. -/
theorem points_arg {H : Type} {enc : TypeId × Value → H} {P : Program} {W : World} {r : Reach} {base b2 : Nat} {held : Bool} {t e u : TypeId} {v : Value} {d : DataW H} {ps : List MemPlace} (ht : P.underlying t = some (.slice e)) (he0 : (match P.underlying e with | some (.struct fs) => some (fs.toList.map fun f => (f.type, f.offset)) | _ => none) = some [(u, 0), (u, 1)]) (hc : P.cellsOf e = 2)
    (hu : P.underlying u = some (.float .f64)) (cu : P.cellsOf u = 1)
    (hok : Value.okWide P W r base t v) (h : ∃ m, DataW.trod enc P W b2 (fun _ => true) held m t v.cells.toList = some (d, ps)) :
    v = .slice none 0 0 ∨ ∃ (px py : Nat → Nat) (len cap : Nat) (μ : List (Option Ent)), len ≤ cap ∧ HR false (old W) μ [.row (rowOf (fun i => [.float .f64 (px i), .float .f64 (py i)]) cap) false none] W ∧ VR false μ (.slice (some ⟨0, 0, some 2⟩) len cap) v := by
  obtain ⟨f0, f1, he, t0, t1, o0, o1⟩ : ∃ f0 f1 : Field, P.underlying e = some (.struct #[f0, f1]) ∧ f0.type = u ∧ f1.type = u ∧ f0.offset = 0 ∧ f1.offset = 1 := by
    split at he0
    · rename_i fs hfs
      obtain ⟨fs⟩ := fs
      match fs, he0 with
      | [f0, f1], he0 =>
        simp at he0
        exact ⟨f0, f1, hfs, he0.1.1, he0.2.1, he0.1.2, he0.2.2⟩
      | [], he0 => simp at he0
      | [f0], he0 => simp at he0
      | f0 :: f1 :: f2 :: fs, he0 => simp at he0
    · cases he0
  rcases wide_slice ht hok with rfl | ⟨a, len, cap, rfl, hl, hs, hb⟩
  · exact .inl rfl
  · right
    obtain ⟨m, h⟩ := h
    have hcell := slice_cells (s := 2) ht hc h
    let px : Nat → Nat := fun i => cellF (W.cell? (a.add (i * 2 + 0)))
    let py : Nat → Nat := fun i => cellF (W.cell? (a.add (i * 2 + 1)))
    have hlen : (rowOf (fun i => [Value.float .f64 (px i), .float .f64 (py i)]) cap).length = cap * 2 := rowOf_len (f := fun i => [Value.float .f64 (px i), .float .f64 (py i)]) (s := 2) (fun _ => rfl) cap
    refine ⟨px, py, len, cap, _, hl, row_arg hs hb (fun j v hj => ?_), slice_arg (W := W) hs hl (by decide) hlen⟩
    have hlt := lt_of_some hj
    rw [hlen] at hlt
    have hk : j / 2 < cap := by omega
    obtain ⟨cs, n, y, hcs, hcell, htr⟩ := hcell (j / 2) hk
    obtain ⟨y0, y1, n', _, _, h0, h1⟩ := trod_struct2 he htr
    rw [t0, o0, cu] at h0
    rw [t1, o1, cu] at h1
    obtain ⟨x0, e0⟩ := trod_float hu h0
    obtain ⟨x1, e1⟩ := trod_float hu h1
    match cs, hcs, e0, e1, hcell with
    | [c0, c1], _, e0, e1, hcell =>
      simp only [List.drop_zero, List.take_succ_cons, List.take_zero, List.cons.injEq, and_true, List.drop_succ_cons] at e0 e1
      subst e0 e1
      have g0 : W.cell? (a.add (j / 2 * 2 + 0)) = some (.float .f64 x0) := hcell 0 (by decide)
      have g1 : W.cell? (a.add (j / 2 * 2 + 1)) = some (.float .f64 x1) := hcell 1 (by decide)
      have hrow := rowOf_at (f := fun i => [Value.float .f64 (px i), .float .f64 (py i)]) (s := 2) (fun _ => rfl) (k := j / 2) hk
      have h2 := congrArg (fun l => l[j % 2]?) hrow
      simp only [List.getElem?_take, List.getElem?_drop, show j % 2 < 2 by omega, if_true] at h2
      rw [show j / 2 * 2 + j % 2 = j by omega, hj] at h2
      rcases Nat.mod_two_eq_zero_or_one j with hm | hm
      · rw [hm] at h2
        simp only [List.getElem?_cons_zero, Option.some.injEq] at h2
        have ep : px (j / 2) = can x0 := by show cellF (W.cell? (a.add (j / 2 * 2 + 0))) = _; rw [g0]; rfl
        rw [show j / 2 * 2 + 0 = j by omega] at g0
        refine ⟨_, g0, ?_⟩
        rw [h2, ep]
        exact .float _ _
      · rw [hm] at h2
        simp only [List.getElem?_cons_succ, List.getElem?_cons_zero, Option.some.injEq] at h2
        have ep : py (j / 2) = can x1 := by show cellF (W.cell? (a.add (j / 2 * 2 + 1))) = _; rw [g1]; rfl
        rw [show j / 2 * 2 + 1 = j by omega] at g1
        refine ⟨_, g1, ?_⟩
        rw [h2, ep]
        exact .float _ _
end Go.Lk
end

section
/- A slice of floats in memory. -/
namespace Go.Lk
set_option linter.unusedVariables false
set_option linter.unusedSimpArgs false
theorem trod_float64 {H : Type} {enc : TypeId × Value → H} {P : Program} {w : World} {base : Nat} {spare : Nat → Bool} {held : Bool} {fuel : Nat} {t : TypeId} {cs : List Value} {x : DataW H × List MemPlace} (ht : P.underlying t = some (.float .f64)) (h : DataW.trod enc P w base spare held fuel t cs = some x) : ∃ b, cs = [.float .f64 b] ∧ b < 2 ^ 64 := by
  obtain ⟨b, rfl⟩ := trod_float ht h
  refine ⟨b, rfl, ?_⟩
  cases fuel with
  | zero => simp [DataW.trod] at h
  | succ n =>
    unfold DataW.trod at h
    rw [ht] at h
    simp only at h
    split at h
    · rename_i hw
      have := hw.2
      simpa [Lit.wf] using this
    · cases h
theorem floats_arg {H : Type} {enc : TypeId × Value → H} {P : Program} {W : World} {r : Reach} {base b2 : Nat} {held : Bool} {t e : TypeId} {v : Value} {d : DataW H} {ps : List MemPlace} (ht : P.underlying t = some (.slice e)) (he : P.underlying e = some (.float .f64)) (hc : P.cellsOf e = 1)
    (hok : Value.okWide P W r base t v) (h : ∃ m, DataW.trod enc P W b2 (fun _ => true) held m t v.cells.toList = some (d, ps)) :
    v = .slice none 0 0 ∨ ∃ (px : Nat → Nat) (len cap : Nat) (μ : List (Option Ent)), len ≤ cap ∧ (∀ i, i < cap → Canon (px i)) ∧ HR false (old W) μ [.row (rowOf (fun i => [.float .f64 (px i)]) cap) false none] W ∧ VR false μ (.slice (some ⟨0, 0, some 1⟩) len cap) v := by
  rcases wide_slice ht hok with rfl | ⟨a, len, cap, rfl, hl, hs, hb⟩
  · exact .inl rfl
  · right
    obtain ⟨m, h⟩ := h
    have hcell := slice_cells (s := 1) ht hc h
    let px : Nat → Nat := fun i => cellF (W.cell? (a.add (i * 1 + 0)))
    have hx : ∀ k, k < cap → ∃ x0, W.cell? (a.add (k * 1 + 0)) = some (.float .f64 x0) ∧ x0 < 2 ^ 64 := by
      intro k hk
      obtain ⟨cs, n, y, hcs, hcell, htr⟩ := hcell k hk
      obtain ⟨x0, rfl, hb0⟩ := trod_float64 he htr
      exact ⟨x0, hcell 0 (by decide), hb0⟩
    have hlen : (rowOf (fun i => [Value.float .f64 (px i)]) cap).length = cap * 1 := rowOf_len (f := fun i => [Value.float .f64 (px i)]) (s := 1) (fun _ => rfl) cap
    refine ⟨px, len, cap, _, hl, fun i hi => ?_, row_arg hs hb (fun j v hj => ?_), slice_arg (W := W) hs hl (by decide) hlen⟩
    · obtain ⟨x0, g0, hb0⟩ := hx i hi
      have ep : px i = can x0 := by show cellF (W.cell? (a.add (i * 1 + 0))) = _; rw [g0]; rfl
      rw [ep]; exact Canon.can hb0
    · have hlt := lt_of_some hj
      rw [hlen] at hlt
      have hk : j < cap := by omega
      obtain ⟨x0, g0, hb0⟩ := hx j hk
      have hrow := rowOf_at (f := fun i => [Value.float .f64 (px i)]) (s := 1) (fun _ => rfl) (k := j) hk
      have h2 := congrArg (fun l => l[0]?) hrow
      simp only [List.getElem?_take, List.getElem?_drop, Nat.lt_one_iff, if_true, Nat.mul_one, Nat.add_zero] at h2
      rw [hj] at h2
      simp only [List.getElem?_cons_zero, Option.some.injEq] at h2
      have ep : px j = can x0 := by show cellF (W.cell? (a.add (j * 1 + 0))) = _; rw [g0]; rfl
      rw [show j * 1 + 0 = j by omega] at g0
      refine ⟨_, g0, ?_⟩
      rw [h2, ep]
      exact .float _ _
end Go.Lk
end
