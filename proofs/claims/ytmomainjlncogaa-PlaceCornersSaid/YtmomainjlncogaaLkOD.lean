/- PlaceCorners, joined. -/
import Derived.Test.YtmomainjlncogaaLkOB
import Derived.Test.YtmomainjlncogaaLkOC
namespace Go.Lk
open Go.Proofs
set_option maxRecDepth 100000
set_option linter.unusedVariables false
set_option linter.unusedSimpArgs false
theorem rowOf_add (F : Nat → List Value) (k : Nat) : ∀ c, rowOf F (k + c) = rowOf F k ++ rowOf (fun i => F (k + i)) c
  | 0 => by rw [show rowOf (fun i => F (k + i)) 0 = [] from rfl, List.append_nil]; rfl
  | c + 1 => by
    rw [← Nat.add_assoc, rowOf_succ, rowOf_succ, rowOf_add F k c, List.append_assoc]
theorem cells_off {σ : AHeap} {b z k n m cap : Nat} {F : Nat → List Value} {rw' : Bool} {opn : Option Nat} (hσ : σ[b]? = some (.row (rowOf F m) rw' opn)) (hf : ∀ i, (F i).length = z) (hn : k + n ≤ m) (z' : Nat) :
    aCells σ z n (.slice (some ⟨b, 0 + k * z, some z'⟩) n cap) = some (rowOf (fun i => F (k + i)) n) := by
  have hl := rowOf_len hf m
  have hln := rowOf_len (f := fun i => F (k + i)) (fun i => hf _) n
  have h1 : k * z + n * z ≤ m * z := by rw [← Nat.add_mul]; exact Nat.mul_le_mul_right z hn
  simp only [aCells, hσ]
  by_cases h0 : n * z = 0
  · rw [if_pos h0]
    congr 1
    exact (List.length_eq_zero_iff.1 (by rw [hln]; exact h0)).symm
  · rw [if_neg h0, if_pos ⟨Nat.le_refl _, by omega⟩, Nat.zero_add]
    congr 1
    have h2 : rowOf F m = rowOf F k ++ rowOf (fun i => F (k + i)) (m - k) := by
      rw [← rowOf_add, show k + (m - k) = m by omega]
    rw [h2, List.drop_append_of_le_length (by rw [rowOf_len hf]; exact Nat.le_refl _), List.drop_eq_nil_of_le (by rw [rowOf_len hf]; exact Nat.le_refl _), List.nil_append, rowOf_take (f := fun i => F (k + i)) (fun i => hf _) (by omega)]
theorem sCnt_at {k : Int} {n : Nat} (h0 : 0 < n) (h1 : n ≤ 65536) (σ : AHeap) : sCnt [.int .i64 k, .int .i64 (iN n)] σ = some (.int .i64 (iN (cnt k (iN n)).toNat), σ) := by
  show (bif decide (0 < iN n) && decide (iN n ≤ 65536) then some (Value.int .i64 (iN (cnt k (iN n)).toNat), σ) else none) = _
  rw [decide_eq_true (by rw [iN_eq]; omega), decide_eq_true (by rw [iN_eq]; omega)]; rfl
theorem cnt_nat {k : Int} {n : Nat} (h0 : 0 < n) (h1 : n ≤ 65536) : (cnt k (iN n)).toNat < n := by
  have h := cnt_range (k := k) (n := iN n) (by rw [iN_eq]; omega) (by rw [iN_eq]; omega)
  rw [iN_eq] at h ⊢
  omega

theorem walk_lt {n hi : Nat} (h : hi < n) : ∀ s, walk n hi s < n
  | 0 => h
  | s + 1 => nxt_lt (walk_lt h s)
theorem mod_nxt {n i : Nat} (h : i < n) : Int.tmod (iN (i + 1)) (iN n) = iN (nxt n i) := by
  have h1 : (i + 1) % n = nxt n i := by
    unfold nxt
    split
    · rename_i e; rw [e, Nat.mod_self]
    · exact Nat.mod_eq_of_lt (by omega)
  rw [← h1]; rfl
theorem walk_ne {n lo hi : Nat} (h1 : lo < hi) (h2 : hi < n) {s : Nat} (hs : s < n - hi + lo) : walk n hi s ≠ lo := by
  rcases Nat.lt_or_ge s (n - hi) with h | h
  · rw [walk_lo h2 s h]; omega
  · have := walk_hi h2 (s - (n - hi)) (by omega)
    rw [show n - hi + (s - (n - hi)) = s by omega] at this
    rw [this]; omega
theorem walk_end {n lo hi : Nat} (h1 : lo < hi) (h2 : hi < n) : walk n hi (n - hi + lo) = lo := walk_hi h2 lo (by omega)
theorem iN_bne {a b : Nat} (h : a ≠ b) : (iN a != iN b) = true := by
  rw [bne_iff_ne]; intro e; rw [iN_eq, iN_eq] at e; omega
theorem iN_bne' {a b : Nat} (h : a = b) : (iN a != iN b) = false := by subst h; exact bne_self_eq_false _
def pcSl (b k : Nat) : Value := .slice (some ⟨b, 0, some 2⟩) k k
def pcF (n cap x y : Nat) (bg ig jg : Int) (w : Bool) (Ms Bs : Value) (k : Nat) : List Value := ([.slice (some ⟨0, 0, some 2⟩) n cap, .agg #[.float .f64 x, .float .f64 y], .int .i64 bg, .int .i64 ig, .int .i64 jg, undef, .pointer (some ⟨1, 0, none⟩), undef, undef, undef, .bool false, .int .i64 (iN n), .bool w, Ms, Bs] ++ List.replicate 20 undef ++ [.int .i64 (iN n), .int .i64 (iN k)] ++ List.replicate 116 undef)
def pcS (opn : Option Nat) (px py rt : Nat → Nat) (m n cap x y : Nat) (bg ig jg : Int) (w : Bool) : Nat → List Value × AHeap
  | 0 => (pcF n cap x y bg ig jg w (.slice none 0 0) (.slice none 0 0) 0, [cC opn px py m, cP x y])
  | k + 1 => (pcF n cap x y bg ig jg w (pcSl 2 (k + 1)) (pcSl 3 (k + 1)) (k + 1), [cC opn px py m, cP x y, cM px py rt (k + 1), .row (rowOf (fun i => [.float .f64 (px (n - 1 - i)), .float .f64 (py (n - 1 - i))]) (k + 1)) true (some 2)])
def turnB (b n : Nat) (i : Nat) : Nat := (i + b) % n
theorem pc_loop (opn : Option Nat) (px py : Nat → Nat) (m n cap x y : Nat) (bg ig jg : Int) (w : Bool) (hm : n ≤ m) (hn : n ≤ 65536) (h0 : 0 < n) (hst : Stood false [cC opn px py m]) :
    Sim dLCn 2 (.loop (loopOf Try.f7 0)) (pcF n cap x y bg ig jg w (.slice none 0 0) (.slice none 0 0) 0) [cC opn px py m, cP x y] (.exit 0)
      (pcF n cap x y bg ig jg w (pcSl 2 n) (pcSl 3 n) n) [cC opn px py m, cP x y, cM px py (turnB (cnt bg (iN n)).toNat n) n, cB px py n] := by
  have hb : (cnt bg (iN n)).toNat < n := cnt_nat h0 hn
  have hr : ∀ k, turnB (cnt bg (iN n)).toNat n k < n := fun k => Nat.mod_lt _ h0
  refine Sim.loop (pcS opn px py (turnB (cnt bg (iN n)).toNat n) m n cap x y bg ig jg w) n (fun k hk => ?_) ?_ rfl
  · cases k with
    | zero =>
      exact (pcR0_p0 opn px py m n cap x y bg ig jg w (turnB (cnt bg (iN n)).toNat n) (cnt bg (iN n)).toNat hb hm hn h0 (hr 0) rfl (sCnt_at h0 hn _) hst).cast (by kernel_rfl) (by kernel_rfl) (by kernel_rfl) (by kernel_rfl)
    | succ k =>
      exact (pcR_p0 opn px py m n cap x y bg ig jg w (turnB (cnt bg (iN n)).toNat n) (cnt bg (iN n)).toNat hb hm hn (k + 1) (Nat.succ_pos k) hk (hr (k + 1)) rfl (sCnt_at h0 hn _) hst).cast (by kernel_rfl) (by kernel_rfl) (by kernel_rfl) (by kernel_rfl)
  · obtain ⟨q, rfl⟩ : ∃ q, n = q + 1 := ⟨n - 1, by omega⟩
    exact (pcE_p0 opn px py m (q + 1) cap x y bg ig jg w (turnB (cnt bg (iN (q + 1))).toNat (q + 1)) hm hn hst).cast (by kernel_rfl) (by kernel_rfl) (by kernel_rfl) (by kernel_rfl)
def pdF (n cap x y : Nat) (w : Bool) (lo hi : Nat) (acc : Value) (k : Nat) : List Value := ([.slice (some ⟨0, 0, some 2⟩) n cap, .agg #[.float .f64 x, .float .f64 y], undef, .int .i64 (iN lo), .int .i64 (iN hi), undef, .pointer (some ⟨1, 0, none⟩), undef, undef, undef, .bool false, .int .i64 (iN n), .bool w, undef, undef, undef, .slice (some ⟨4, 0, some 2⟩) (hi + 1 - lo) (hi + 1 - lo), acc, .int .i64 (iN k)] ++ List.replicate 134 undef)
def pdS (opn : Option Nat) (px py rt kk : Nat → Nat) (m n cap x y : Nat) (w : Bool) (lo hi : Nat) : Nat → List Value × AHeap
  | 0 => (pdF n cap x y w lo hi (.slice none 0 0) (kk 0), [cC opn px py m, cP x y, cM px py rt n, cB px py n, cO px py lo hi])
  | s + 1 => (pdF n cap x y w lo hi (pcSl 5 (s + 1)) (kk (s + 1)), [cC opn px py m, cP x y, cM px py rt n, cB px py n, cO px py lo hi, cW px py kk (s + 1)])
theorem pd_loop (opn : Option Nat) (px py rt : Nat → Nat) (m n cap x y : Nat) (w : Bool) (lo hi : Nat) (hm : n ≤ m) (hn : n ≤ 65536) (h1 : lo < hi) (h2 : hi < n) (hst : Stood false [cC opn px py m]) :
    Sim dLCn 5 (.loop (loopOf Try.f7 1)) (pdF n cap x y w lo hi (.slice none 0 0) hi) [cC opn px py m, cP x y, cM px py rt n, cB px py n, cO px py lo hi] (.exit 2)
      (pdF n cap x y w lo hi (pcSl 5 (n - hi + lo)) (walk n hi (n - hi + lo))) [cC opn px py m, cP x y, cM px py rt n, cB px py n, cO px py lo hi, cW px py (walk n hi) (n - hi + lo)] := by
  have p2 : plainO (cM px py rt n) := rowOf_all (fun _ => rfl) _
  have p3 : plainO (cB px py n) := rowOf_all (fun _ => rfl) _
  refine Sim.loop (pdS opn px py rt (walk n hi) m n cap x y w lo hi) (n - hi + lo) (fun s hs => ?_) ?_ rfl
  · cases s with
    | zero =>
      exact (pdR0_p0 opn px py m n cap x y w lo hi (walk n hi) (cM px py rt n) (cB px py n) p2 p3 hm hn (walk_lt h2 0) (iN_bne (walk_ne h1 h2 hs)) (mod_nxt (walk_lt h2 0)) hst).cast (by kernel_rfl) (by kernel_rfl) (by kernel_rfl) (by kernel_rfl)
    | succ s =>
      exact (pdR_p0 opn px py m n cap x y w lo hi (walk n hi) (cM px py rt n) (cB px py n) p2 p3 hm hn (s + 1) (by omega) (walk_lt h2 _) (iN_bne (walk_ne h1 h2 hs)) (mod_nxt (walk_lt h2 _)) hst).cast (by kernel_rfl) (by kernel_rfl) (by kernel_rfl) (by kernel_rfl)
  · obtain ⟨q, hq⟩ : ∃ q, n - hi + lo = q + 1 := ⟨n - hi + lo - 1, by omega⟩
    have he := walk_end h1 h2
    rw [hq] at he ⊢
    exact (pdE_p0 opn px py m n cap x y w lo hi (walk n hi) (cM px py rt n) (cB px py n) p2 p3 hm hn (q + 1) (iN_bne' he) hst).cast (by kernel_rfl) (by kernel_rfl) (by kernel_rfl) (by kernel_rfl)
def pcMask : List Bool := [true, true, true, true, true, false, true, false, false, false, true, true, true, true, true, false, false, false, false, false, false, false, false, false, false, false, false, false, false, false, false, false, false, false, false, true, true, false, false, false, false, false, false, false, false, false, false, false, false, false, false, false, false, false, false, false, false, false, false, false, false, false, false, false, false, false, false, false, false, false, false, false, false, false, false, false, false, false, false, false, false, false, false, false, false, false, false, false, false, false, false, false, false, false, false, false, false, false, false, false, false, false, false, false, false, false, false, false, false, false, false, false, false, false, false, false, false, false, false, false, false, false, false, false, false, false, false, false, false, false, false, false, false, false, false, false, false, false, false, false, false, false, false, false, false, false, false, false, false, false, false, false, false]
def pdMask : List Bool := [true, true, false, true, true, false, true, false, false, false, true, true, true, false, false, false, true, true, true, false, false, false, false, false, false, false, false, false, false, false, false, false, false, false, false, false, false, false, false, false, false, false, false, false, false, false, false, false, false, false, false, false, false, false, false, false, false, false, false, false, false, false, false, false, false, false, false, false, false, false, false, false, false, false, false, false, false, false, false, false, false, false, false, false, false, false, false, false, false, false, false, false, false, false, false, false, false, false, false, false, false, false, false, false, false, false, false, false, false, false, false, false, false, false, false, false, false, false, false, false, false, false, false, false, false, false, false, false, false, false, false, false, false, false, false, false, false, false, false, false, false, false, false, false, false, false, false, false, false, false, false, false, false]
theorem pc_one (opn : Option Nat) (px py rt : Nat → Nat) (m n cap x y lo hi : Nat) (hm : n ≤ m) (hn : n ≤ 65536) (h1 : lo < hi) (h2 : hi < n) :
    aAppend Try.prog [cC opn px py m, cP x y, cM px py rt n, cB px py n] [40, 40] [.slice none 0 0, .slice (some ⟨0, 0 + lo * 2, some 2⟩) (hi + 1 - lo) (cap - lo)] = some (.slice (some ⟨4, 0, some 2⟩) (hi + 1 - lo) (hi + 1 - lo), [cC opn px py m, cP x y, cM px py rt n, cB px py n, cO px py lo hi]) :=
  append_first (P := Try.prog) (σ := [cC opn px py m, cP x y, cM px py rt n, cB px py n]) (t := 40) (t2 := 40) (ts := []) (rest := []) (z := 2) (F := fun i => [.float .f64 (px (lo + i)), .float .f64 (py (lo + i))]) (x := .slice (some ⟨0, 0 + lo * 2, some 2⟩) (hi + 1 - lo) (cap - lo)) (n := hi + 1 - lo)
    (by kernel_rfl) (cells_off (F := fun i => [.float .f64 (px i), .float .f64 (py i)]) rfl (fun _ => rfl) (by omega) 2) rfl (rowOf_all (fun _ => rfl) _) (by omega) (by omega)
theorem pc_two (opn : Option Nat) (px py rt : Nat → Nat) (m n cap x y lo hi : Nat) (hn : n ≤ 65536) (h1 : lo < hi) (h2 : hi < n) :
    aAppend Try.prog [cC opn px py m, cP x y, cM px py rt n, cB px py n, cO px py lo hi, cW px py (walk n hi) (n - hi + lo), cL px py lo] [40, 40] [.slice (some ⟨5, 0, some 2⟩) (n - hi + lo) (n - hi + lo), .slice (some ⟨6, 0, some 2⟩) 1 1] = some (.slice (some ⟨7, 0, some 2⟩) (n - hi + lo + 1) (n - hi + lo + 1), [cC opn px py m, cP x y, cM px py rt n, cB px py n, cO px py lo hi, .dead, cL px py lo, cV px py (walk n hi) (n - hi + lo)]) :=
  append_many (P := Try.prog) (σ := [cC opn px py m, cP x y, cM px py rt n, cB px py n, cO px py lo hi, cW px py (walk n hi) (n - hi + lo), cL px py lo]) (t := 40) (t2 := 40) (ts := []) (rest := []) (b := 5) (N := n - hi + lo) (n := 1) (z := 2) (xs := [.float .f64 (px lo), .float .f64 (py lo)]) (F := fun i => [.float .f64 (px (walk n hi i)), .float .f64 (py (walk n hi i))]) (F' := fun i => [.float .f64 (px (walk n hi i)), .float .f64 (py (walk n hi i))]) (x := .slice (some ⟨6, 0, some 2⟩) 1 1) (rw' := true) (opn := some 2)
    (by kernel_rfl) rfl (.inl rfl) (by kernel_rfl) rfl (by rw [rowOf_succ, walk_end h1 h2]) (fun _ => rfl) rfl (by decide) (by omega)
theorem pc_all (opn : Option Nat) (px py : Nat → Nat) (m n cap x y : Nat) (bg ig jg : Int) (hm : n ≤ m) (hcap : n ≤ cap) : ∃ σ', CallR Try.prog false 7 [.slice (some ⟨0, 0, some 2⟩) n cap, .agg #[.float .f64 x, .float .f64 y], .int .i64 bg, .int .i64 ig, .int .i64 jg] [cC opn px py m] (.bool true) σ' := by
  rcases Nat.eq_zero_or_pos n with rfl | h0
  · exact ⟨_, pcY_p0 opn px py m cap x y bg ig jg⟩
  have he : (iN n == Int.ofNat 0) = false := by
    have := iN_bne (a := n) (b := 0) (by omega)
    rw [bne, Bool.not_eq_true'] at this
    exact this
  rcases Nat.lt_or_ge 65536 n with hn | hn
  · exact ⟨_, pcG_p0 opn px py m n cap x y bg ig jg true hm hn he⟩
  have hb : (cnt bg (iN n)).toNat < n := cnt_nat h0 hn
  obtain ⟨w, hwe⟩ : ∃ w, withinN px py n x y = w := ⟨_, rfl⟩
  have hw : (w == w) = true := beq_self_eq_true _
  obtain ⟨rt, hrt⟩ : ∃ rt, rt = turnB (cnt bg (iN n)).toNat n := ⟨_, rfl⟩
  have hl : ∀ (hst : Stood false [cC opn px py m]), Sim dLCn 2 (.loop (loopOf Try.f7 0)) (pcF n cap x y bg ig jg w (.slice none 0 0) (.slice none 0 0) 0) [cC opn px py m, cP x y] (.exit 0)
      (pcF n cap x y bg ig jg w (pcSl 2 n) (pcSl 3 n) n) [cC opn px py m, cP x y, cM px py rt n, cB px py n] := by
    subst hrt; exact fun hst => pc_loop opn px py m n cap x y bg ig jg w hm hn h0 hst
  have sc : sWithin2 [.slice (some ⟨0, 0, some 2⟩) n cap, .agg #[.float .f64 x, .float .f64 y]] [cC opn px py m, cP x y] = some (.bool w, [cC opn px py m, cP x y]) := by
    rw [← hwe]; exact sWithin_row (σ := [cC opn px py m, cP x y]) rfl hm
  have sm : sWithin2 [.slice (some ⟨2, 0, some 2⟩) n n, .agg #[.float .f64 x, .float .f64 y]] [cC opn px py m, cP x y, cM px py rt n, cB px py n] = some (.bool w, [cC opn px py m, cP x y, cM px py rt n, cB px py n]) := by
    have h := sWithin_row (a := fun i => px (rt i)) (b := fun i => py (rt i)) (m := n) (n := n) (cap := n) (x := x) (y := y) (bl := 2) (σ := [cC opn px py m, cP x y, cM px py rt n, cB px py n]) rfl (Nat.le_refl n)
    rw [show withinN (fun i => px (rt i)) (fun i => py (rt i)) n x y = w from by subst hrt; exact (within_turn px py n _ x y hb).trans hwe] at h
    exact h
  have sb : sWithin2 [.slice (some ⟨3, 0, some 2⟩) n n, .agg #[.float .f64 x, .float .f64 y]] [cC opn px py m, cP x y, cM px py rt n, cB px py n] = some (.bool w, [cC opn px py m, cP x y, cM px py rt n, cB px py n]) := by
    have h := sWithin_row (a := fun i => px (n - 1 - i)) (b := fun i => py (n - 1 - i)) (m := n) (n := n) (cap := n) (x := x) (y := y) (bl := 3) (σ := [cC opn px py m, cP x y, cM px py rt n, cB px py n]) rfl (Nat.le_refl n)
    rw [(within_back px py n x y).trans hwe] at h
    exact h
  clear hrt
  rcases Nat.lt_or_ge n 3 with h3 | h3
  · have : w = false := by rw [← hwe]; exact within_out (.inl h3)
    have h := pcC1_p0 opn px py m n cap x y bg ig jg w rt hm hn h0 he hw h3 sb sm (fun hst => ((hl hst).enter pcMask (by kernel_rfl)).cast rfl rfl (by kernel_rfl) (by kernel_rfl)) sc
    subst this
    exact ⟨_, h⟩
  rcases Nat.lt_or_ge n 4 with h4 | h4
  · exact ⟨_, pcC2_p0 opn px py m n cap x y bg ig jg w rt hm hn h0 he hw (by omega) sb sm (fun hst => ((hl hst).enter pcMask (by kernel_rfl)).cast rfl rfl (by kernel_rfl) (by kernel_rfl)) sc⟩
  rcases Nat.lt_or_ge 64 n with h64 | h64
  · have : w = false := by rw [← hwe]; exact within_out (.inr h64)
    have h := pcC3_p0 opn px py m n cap x y bg ig jg w rt hm hn h0 he hw h64 sb sm (fun hst => ((hl hst).enter pcMask (by kernel_rfl)).cast rfl rfl (by kernel_rfl) (by kernel_rfl)) sc
    subst this
    exact ⟨_, h⟩
  have hci := cnt_nat (k := ig) h0 hn
  have hcj := cnt_nat (k := jg) h0 hn
  have si := sCnt_at (k := ig) h0 hn [cC opn px py m, cP x y, cM px py rt n, cB px py n]
  have sj := sCnt_at (k := jg) h0 hn [cC opn px py m, cP x y, cM px py rt n, cB px py n]
  generalize (cnt ig (iN n)).toNat = ci at hci si
  generalize (cnt jg (iN n)).toNat = cj at hcj sj
  have e1 : ∀ {a b : Nat}, (iN a == iN b) = true → a = b := by
    intro a b h
    have := eq_of_beq h
    rw [iN_eq, iN_eq] at this; omega
  have e2 : ∀ {a b : Nat}, (iN a == iN b) = false → a ≠ b := by
    intro a b h e
    subst e
    rw [beq_self_eq_true] at h; cases h
  have fin : ∀ (lo hi : Nat), 2 ≤ hi - lo → hi < n → (0 < lo ∨ hi + 1 < n) → (w == !(withinN (fun i => px (lo + i)) (fun i => py (lo + i)) (hi + 1 - lo) x y == withinN (fun i => px (walk n hi i)) (fun i => py (walk n hi i)) (n - hi + lo + 1) x y)) = true := by
    intro lo hi h1 h2 h5
    rw [← hwe]
    exact within_cut px py n lo hi x y (by omega) h2 h64 h5
  have q1 : ∀ (lo hi : Nat), sWithin2 [.slice (some ⟨4, 0, some 2⟩) (hi + 1 - lo) (hi + 1 - lo), .agg #[.float .f64 x, .float .f64 y]] [cC opn px py m, cP x y, cM px py rt n, cB px py n, cO px py lo hi, .dead, cL px py lo, cV px py (walk n hi) (n - hi + lo)] = some (.bool (withinN (fun i => px (lo + i)) (fun i => py (lo + i)) (hi + 1 - lo) x y), [cC opn px py m, cP x y, cM px py rt n, cB px py n, cO px py lo hi, .dead, cL px py lo, cV px py (walk n hi) (n - hi + lo)]) :=
    fun lo hi => sWithin_row (σ := [cC opn px py m, cP x y, cM px py rt n, cB px py n, cO px py lo hi, .dead, cL px py lo, cV px py (walk n hi) (n - hi + lo)]) rfl (Nat.le_refl _)
  have q2 : ∀ (lo hi : Nat), sWithin2 [.slice (some ⟨7, 0, some 2⟩) (n - hi + lo + 1) (n - hi + lo + 1), .agg #[.float .f64 x, .float .f64 y]] [cC opn px py m, cP x y, cM px py rt n, cB px py n, cO px py lo hi, .dead, cL px py lo, cV px py (walk n hi) (n - hi + lo)] = some (.bool (withinN (fun i => px (walk n hi i)) (fun i => py (walk n hi i)) (n - hi + lo + 1) x y), [cC opn px py m, cP x y, cM px py rt n, cB px py n, cO px py lo hi, .dead, cL px py lo, cV px py (walk n hi) (n - hi + lo)]) :=
    fun lo hi => sWithin_row (σ := [cC opn px py m, cP x y, cM px py rt n, cB px py n, cO px py lo hi, .dead, cL px py lo, cV px py (walk n hi) (n - hi + lo)]) rfl (Nat.le_refl _)
  rcases Nat.lt_or_ge cj ci with hs | hs
  · rcases Nat.lt_or_ge (ci - cj) 2 with hd | hd
    · exact ⟨_, pcS1_p0 opn px py m n cap x y bg ig jg w ci cj rt hm hn h0 he hw h4 h64 hci hcj hs hd sj si sb sm (fun hst => ((hl hst).enter pcMask (by kernel_rfl)).cast rfl rfl (by kernel_rfl) (by kernel_rfl)) sc⟩
    have hx : 0 < cj ∨ ci + 1 < n → CallR Try.prog false 7 [.slice (some ⟨0, 0, some 2⟩) n cap, .agg #[.float .f64 x, .float .f64 y], .int .i64 bg, .int .i64 ig, .int .i64 jg] [cC opn px py m] (.bool true) [cC opn px py m, cP x y, cM px py rt n, cB px py n, cO px py cj ci, .dead, cL px py cj, cV px py (walk n ci) (n - ci + cj)] := by
      intro hor
      have hf := fin cj ci hd (by omega) hor
      cases hz : (iN cj == Int.ofNat 0)
      · have h := pcSA_p0 opn px py m n cap x y bg ig jg w (walk n ci) (n - ci + cj) _ _ ci cj rt hm hn h0 he hw h4 h64 hci hcj hs hcap hd hz (q2 cj ci) (q1 cj ci) (pc_two opn px py rt m n cap x y cj ci hn (by omega) (by omega)) (fun hst => ((pd_loop opn px py rt m n cap x y w cj ci hm hn (by omega) (by omega) hst).enter pdMask (by kernel_rfl)).cast rfl rfl (by kernel_rfl) (by kernel_rfl)) (pc_one opn px py rt m n cap x y cj ci hm hn (by omega) (by omega)) sj si sb sm (fun hst => ((hl hst).enter pcMask (by kernel_rfl)).cast rfl rfl (by kernel_rfl) (by kernel_rfl)) sc
        rw [hf] at h
        exact h
      · cases hj : (iN ci == iN (n - 1))
        · have h := pcSB_p0 opn px py m n cap x y bg ig jg w (walk n ci) (n - ci + cj) _ _ ci cj rt hm hn h0 he hw h4 h64 hci hcj hs hcap hd hz hj (q2 cj ci) (q1 cj ci) (pc_two opn px py rt m n cap x y cj ci hn (by omega) (by omega)) (fun hst => ((pd_loop opn px py rt m n cap x y w cj ci hm hn (by omega) (by omega) hst).enter pdMask (by kernel_rfl)).cast rfl rfl (by kernel_rfl) (by kernel_rfl)) (pc_one opn px py rt m n cap x y cj ci hm hn (by omega) (by omega)) sj si sb sm (fun hst => ((hl hst).enter pcMask (by kernel_rfl)).cast rfl rfl (by kernel_rfl) (by kernel_rfl)) sc
          rw [hf] at h
          exact h
        · exfalso
          have := e1 hj
          have : cj = 0 := e1 hz
          omega
    by_cases hor : 0 < cj ∨ ci + 1 < n
    · exact ⟨_, hx hor⟩
    · have z0 : cj = 0 := by omega
      have z1 : ci = n - 1 := by omega
      exact ⟨_, pcS2_p0 opn px py m n cap x y bg ig jg w ci cj rt hm hn h0 he hw h4 h64 hci hcj hs hd (by rw [z0]; exact beq_self_eq_true _) (by rw [z1]; exact beq_self_eq_true _) sj si sb sm (fun hst => ((hl hst).enter pcMask (by kernel_rfl)).cast rfl rfl (by kernel_rfl) (by kernel_rfl)) sc⟩
  · rcases Nat.lt_or_ge (cj - ci) 2 with hd | hd
    · exact ⟨_, pcN1_p0 opn px py m n cap x y bg ig jg w ci cj rt hm hn h0 he hw h4 h64 hci hcj hs hd sj si sb sm (fun hst => ((hl hst).enter pcMask (by kernel_rfl)).cast rfl rfl (by kernel_rfl) (by kernel_rfl)) sc⟩
    have hx : 0 < ci ∨ cj + 1 < n → CallR Try.prog false 7 [.slice (some ⟨0, 0, some 2⟩) n cap, .agg #[.float .f64 x, .float .f64 y], .int .i64 bg, .int .i64 ig, .int .i64 jg] [cC opn px py m] (.bool true) [cC opn px py m, cP x y, cM px py rt n, cB px py n, cO px py ci cj, .dead, cL px py ci, cV px py (walk n cj) (n - cj + ci)] := by
      intro hor
      have hf := fin ci cj hd (by omega) hor
      cases hz : (iN ci == Int.ofNat 0)
      · have h := pcNA_p0 opn px py m n cap x y bg ig jg w (walk n cj) (n - cj + ci) _ _ ci cj rt hm hn h0 he hw h4 h64 hci hcj hs hcap hd hz (q2 ci cj) (q1 ci cj) (pc_two opn px py rt m n cap x y ci cj hn (by omega) (by omega)) (fun hst => ((pd_loop opn px py rt m n cap x y w ci cj hm hn (by omega) (by omega) hst).enter pdMask (by kernel_rfl)).cast rfl rfl (by kernel_rfl) (by kernel_rfl)) (pc_one opn px py rt m n cap x y ci cj hm hn (by omega) (by omega)) sj si sb sm (fun hst => ((hl hst).enter pcMask (by kernel_rfl)).cast rfl rfl (by kernel_rfl) (by kernel_rfl)) sc
        rw [hf] at h
        exact h
      · cases hj : (iN cj == iN (n - 1))
        · have h := pcNB_p0 opn px py m n cap x y bg ig jg w (walk n cj) (n - cj + ci) _ _ ci cj rt hm hn h0 he hw h4 h64 hci hcj hs hcap hd hz hj (q2 ci cj) (q1 ci cj) (pc_two opn px py rt m n cap x y ci cj hn (by omega) (by omega)) (fun hst => ((pd_loop opn px py rt m n cap x y w ci cj hm hn (by omega) (by omega) hst).enter pdMask (by kernel_rfl)).cast rfl rfl (by kernel_rfl) (by kernel_rfl)) (pc_one opn px py rt m n cap x y ci cj hm hn (by omega) (by omega)) sj si sb sm (fun hst => ((hl hst).enter pcMask (by kernel_rfl)).cast rfl rfl (by kernel_rfl) (by kernel_rfl)) sc
          rw [hf] at h
          exact h
        · exfalso
          have := e1 hj
          have : ci = 0 := e1 hz
          omega
    by_cases hor : 0 < ci ∨ cj + 1 < n
    · exact ⟨_, hx hor⟩
    · have z0 : ci = 0 := by omega
      have z1 : cj = n - 1 := by omega
      exact ⟨_, pcN2_p0 opn px py m n cap x y bg ig jg w ci cj rt hm hn h0 he hw h4 h64 hci hcj hs hd (by rw [z0]; exact beq_self_eq_true _) (by rw [z1]; exact beq_self_eq_true _) sj si sb sm (fun hst => ((hl hst).enter pcMask (by kernel_rfl)).cast rfl rfl (by kernel_rfl) (by kernel_rfl)) sc⟩
theorem pc_nil (x y : Nat) (bg ig jg : Int) : ∃ σ', CallR Try.prog false 7 [.slice none 0 0, .agg #[.float .f64 x, .float .f64 y], .int .i64 bg, .int .i64 ig, .int .i64 jg] [] (.bool true) σ' := ⟨_, pcZ_p0 x y bg ig jg⟩
end Go.Lk
