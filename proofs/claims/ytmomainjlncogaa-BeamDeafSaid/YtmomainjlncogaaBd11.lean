import Derived.Test.YtmomainjlncogaaBd10
import Derived.Test.YtmomainjlncogaaBd7
import Derived.Test.YtmomainjlncogaaBd6
import Derived.Test.YtmomainjlncogaaBd8
section
/- The program's cosine and sine as polynomials: the addition law, but for a little. -/
namespace Go.Lk
set_option linter.unusedSimpArgs false
set_option linter.unusedVariables false
set_option maxRecDepth 10000
set_option maxHeartbeats 1000000
def r1L : List Rat := padd (pscale 2 (dl cL)) sL
def r2L : List Rat := padd (padd sL (pscale 2 (0 :: dl sL))) (pscale (-1) cL)
theorem rho1 (y : Rat) : cD y + sF y = y * pe r1L (y * y) := by
  unfold r1L cD sF
  rw [pe_add, pe_scale]
  grind
theorem rho2 (y : Rat) : sD y - cF y = pe r2L (y * y) := by
  unfold r2L sD cF
  rw [pe_add, pe_add, pe_scale, pe_scale, pe_cons]
  grind
theorem sq_YY {y : Rat} (h : Bd y YY) : 0 ≤ y * y ∧ y * y ≤ ZZ := ⟨sq_nn y, Rat.le_trans h.sqr YY_sq⟩
theorem rho_bd {y : Rat} (h : Bd y YY) : Bd (cD y + sF y) (eta / 2) ∧ Bd (sD y - cF y) (eta / 2) := by
  obtain ⟨z0, z1⟩ := sq_YY h
  rw [rho1, rho2]
  have h1 := (pe_bd z0 z1 r1L).mono (B := eta / 2) (by decide +kernel)
  have h2 := (pe_bd z0 z1 r2L).mono (B := eta / 2) (by decide +kernel)
  refine ⟨(h.mul h1).mono ?_, h2⟩
  have : YY * (eta / 2) ≤ eta / 2 := by decide +kernel
  exact this
theorem cs_bd {y : Rat} (h : Bd y YY) : Bd (cF y) (101 / 100) ∧ Bd (sF y) (101 / 100) ∧ Bd (cF y * cF y + sF y * sF y - 1) (eta / 20) := by
  obtain ⟨z0, z1⟩ := sq_YY h
  have c := circle1 z1 z0
  have e : eta / 20 ≤ 1 / 100 := by decide +kernel
  have n1 := sq_nn (cF y)
  have n2 := sq_nn (sF y)
  have c2 := c.2
  have k : ∀ {p : Rat}, p * p ≤ 101 / 100 → Bd p (101 / 100) := by
    intro p hp
    have hq : (101 / 100 : Rat) ≤ 101 / 100 * (101 / 100) := by decide +kernel
    exact ⟨by have := le_of_sq (p := -p) (q := 101 / 100) (by decide +kernel) (by grind); grind, le_of_sq (by decide +kernel) (by grind)⟩
  exact ⟨k (by grind), k (by grind), c⟩
theorem Df.cFc {a b : Rat} {f f' : Rat → Rat} (h : Df a b f f') : Df a b (fun u => Lk.cF (f u)) (fun u => cD (f u) * f' u) :=
  (Df.pe (h.mul h) cL).congr (fun _ => rfl) (fun u => by unfold cD; grind)
theorem Df.sFc {a b : Rat} {f f' : Rat → Rat} (h : Df a b f f') : Df a b (fun u => Lk.sF (f u)) (fun u => sD (f u) * f' u) :=
  (h.mul (Df.pe (h.mul h) sL)).congr (fun _ => rfl) (fun u => by unfold sD; grind)
theorem Df.from (a b s : Rat) : Df a b (fun u => s - u) (fun _ => -1) :=
  ((Df.const s).add ((Df.const (-1)).mul (Df.id a b))).congr (fun u => by grind) (fun u => by grind)
theorem cF_zero : cF 0 = 1 ∧ sF 0 = 0 := by decide +kernel
theorem cF_neg (y : Rat) : cF (-y) = cF y ∧ sF (-y) = -sF y := by
  unfold cF sF
  rw [show -y * -y = y * y by grind]
  exact ⟨rfl, by grind⟩
/-- From nought to u, a function with a small derivative. -/
theorem smallSlope {u ε : Rat} {g g' : Rat → Rat} (h : ∀ a b, Df a b g g') (hu : Bd u 1) (hd : ∀ t, (0 ≤ t ∧ t ≤ u ∨ u ≤ t ∧ t ≤ 0) → Bd (g' t) ε) (he : 0 ≤ ε) : Bd (g u - g 0) ε := by
  rcases Rat.le_total (a := 0) (b := u) with h0 | h0
  · have m := (h 0 u).mean (σ := 0) (ε := ε) h0 (fun v h1 h2 => (hd v (.inl ⟨h1, h2⟩)).of_eq (by grind))
    have k := Rat.mul_le_mul_of_nonneg_left hu.2 he
    exact (m.of_eq (by grind)).mono (by grind)
  · have m := (h u 0).mean (σ := 0) (ε := ε) h0 (fun v h1 h2 => (hd v (.inr ⟨h1, h2⟩)).of_eq (by grind))
    have k := Rat.mul_le_mul_of_nonneg_left (show 0 - u ≤ 1 by have := hu.1; grind) he
    exact (m.neg.of_eq (by grind)).mono (by grind)
theorem between {u v t : Rat} (hu : Bd u YY) (hv : Bd v YY) (hs : Bd (u + v) YY) (h : 0 ≤ t ∧ t ≤ u ∨ u ≤ t ∧ t ≤ 0) : Bd t YY ∧ Bd (u + v - t) YY := by
  have h1 := hu.1; have h2 := hu.2; have h3 := hv.1; have h4 := hv.2; have h5 := hs.1; have h6 := hs.2
  rcases h with ⟨a, b⟩ | ⟨a, b⟩
  · exact ⟨⟨by grind, by grind⟩, ⟨by grind, by grind⟩⟩
  · exact ⟨⟨by grind, by grind⟩, ⟨by grind, by grind⟩⟩
theorem add_small {u v : Rat} (hu : Bd u YY) (hv : Bd v YY) (hs : Bd (u + v) YY) :
    Bd (cF u * cF v - sF u * sF v - cF (u + v)) (21 / 10 * eta) ∧ Bd (sF u * cF v + cF u * sF v - sF (u + v)) (21 / 10 * eta) := by
  obtain ⟨z1, z2⟩ := cF_zero
  have hu1 : Bd u 1 := hu.mono (by decide +kernel)
  have e0 : 0 ≤ 21 / 10 * eta := by decide +kernel
  have ev : u + v - u = v := by grind
  have es : u + v - 0 = u + v := by grind
  constructor
  · have m := smallSlope (u := u) (ε := 21 / 10 * eta) (g := fun t => cF t * cF (u + v - t) + -1 * (sF t * sF (u + v - t))) (g' := fun t => (cD t * 1 * cF (u + v - t) + cF t * (cD (u + v - t) * -1)) + (0 * (sF t * sF (u + v - t)) + -1 * (sD t * 1 * sF (u + v - t) + sF t * (sD (u + v - t) * -1))))
      (fun a b => ((Df.cFc (Df.id a b)).mul (Df.cFc (Df.from a b (u + v)))).add ((Df.const (-1)).mul ((Df.sFc (Df.id a b)).mul (Df.sFc (Df.from a b (u + v)))))) hu1 (fun t ht => ?_) e0
    · refine (m.of_eq ?_)
      show cF u * cF (u + v - u) + -1 * (sF u * sF (u + v - u)) - (cF 0 * cF (u + v - 0) + -1 * (sF 0 * sF (u + v - 0))) = _
      rw [ev, es, z1, z2]
      grind
    · obtain ⟨t1, t2⟩ := between hu hv hs ht
      show Bd ((cD t * 1 * cF (u + v - t) + cF t * (cD (u + v - t) * -1)) + (0 * (sF t * sF (u + v - t)) + -1 * (sD t * 1 * sF (u + v - t) + sF t * (sD (u + v - t) * -1)))) (21 / 10 * eta)
      generalize u + v - t = w at *
      obtain ⟨a1, a2⟩ := rho_bd t1
      obtain ⟨b1, b2⟩ := rho_bd t2
      obtain ⟨c1, c2, _⟩ := cs_bd t1
      obtain ⟨d1, d2, _⟩ := cs_bd t2
      refine (((((a1.mul d1).sub (c1.mul b1)).sub (a2.mul d2)).add (c2.mul b2)).of_eq (by grind)).mono ?_
      decide +kernel
  · have m := smallSlope (u := u) (ε := 21 / 10 * eta) (g := fun t => sF t * cF (u + v - t) + cF t * sF (u + v - t)) (g' := fun t => (sD t * 1 * cF (u + v - t) + sF t * (cD (u + v - t) * -1)) + (cD t * 1 * sF (u + v - t) + cF t * (sD (u + v - t) * -1)))
      (fun a b => ((Df.sFc (Df.id a b)).mul (Df.cFc (Df.from a b (u + v)))).add ((Df.cFc (Df.id a b)).mul (Df.sFc (Df.from a b (u + v))))) hu1 (fun t ht => ?_) e0
    · refine (m.of_eq ?_)
      show sF u * cF (u + v - u) + cF u * sF (u + v - u) - (sF 0 * cF (u + v - 0) + cF 0 * sF (u + v - 0)) = _
      rw [ev, es, z1, z2]
      grind
    · obtain ⟨t1, t2⟩ := between hu hv hs ht
      show Bd ((sD t * 1 * cF (u + v - t) + sF t * (cD (u + v - t) * -1)) + (cD t * 1 * sF (u + v - t) + cF t * (sD (u + v - t) * -1))) (21 / 10 * eta)
      generalize u + v - t = w at *
      obtain ⟨a1, a2⟩ := rho_bd t1
      obtain ⟨b1, b2⟩ := rho_bd t2
      obtain ⟨c1, c2, _⟩ := cs_bd t1
      obtain ⟨d1, d2, _⟩ := cs_bd t2
      refine (((((a2.mul d1).sub (c2.mul b1)).add (a1.mul d2)).sub (c1.mul b2)).of_eq (by grind)).mono ?_
      decide +kernel
/-- The point at y. -/
def Ec (y : Rat) : Cq := ⟨cF y, sF y⟩
theorem Ec_nb {y : Rat} (h : Bd y YY) : Nb (Ec y) (1 + eta) := by
  obtain ⟨_, _, c⟩ := cs_bd h
  refine ⟨by decide +kernel, ?_⟩
  show cF y * cF y + sF y * sF y ≤ _
  have : 1 + eta / 20 ≤ (1 + eta) * (1 + eta) := by decide +kernel
  have := c.2
  grind
theorem Ec_add {u v : Rat} (hu : Bd u YY) (hv : Bd v YY) (hs : Bd (u + v) YY) : Nd (Ec u * Ec v) (Ec (u + v)) (42 / 10 * eta) := by
  obtain ⟨h1, h2⟩ := add_small hu hv hs
  exact (Nd.of h1 ((h2.of_eq (by show sF u * cF v + cF u * sF v - sF (u + v) = cF u * sF v + sF u * cF v - sF (u + v); grind)))).mono (by decide +kernel)
theorem Ec_conj (y : Rat) : (Ec y).conj = Ec (-y) := by
  obtain ⟨h1, h2⟩ := cF_neg y
  exact Cq.ext h1.symm h2.symm
/-- Near 1 at a small one. -/
theorem Ec_one {y e : Rat} (h : Bd y e) (he : e ≤ YY) : Nd (Ec y) Cq.one (e * (1 + e)) := by
  have hy := h.mono he
  obtain ⟨z0, z1⟩ := sq_YY hy
  have e0 := h.nonneg
  have hc : Bd (cF y - 1) (e * e) := by
    have hb := (pe_bd z0 z1 cosT).mono (B := 1) (by decide +kernel)
    have e1 : cF y - 1 = y * y * pe cosT (y * y) := by unfold cF cL; rw [pe_cons]; grind
    rw [e1]
    exact ((h.mul h).mul hb).mono (by grind)
  have hs : Bd (sF y - 0) (e * 1) := by
    have hle : Bd (pe sL (y * y)) 1 := by
      obtain ⟨s1, s2⟩ := sinT_bd z0 z1
      have k1 := Rat.mul_nonneg z0 (show 0 ≤ -pe sinT (y * y) by grind)
      have k2 := Rat.mul_le_mul_of_nonneg_left (show -pe sinT (y * y) ≤ 1 by grind) z0
      have z2 : ZZ ≤ 1 := by decide +kernel
      unfold sL
      rw [pe_cons]
      exact ⟨by grind, by grind⟩
    rw [show sF y - 0 = y * pe sL (y * y) by unfold sF; grind]
    exact h.mul hle
  exact (Nd.of hc hs).mono (by grind)
end Go.Lk
end

section
/- Points of the circle, near: turns add up. -/
namespace Go.Lk
set_option linter.unusedSimpArgs false
set_option linter.unusedVariables false
set_option maxRecDepth 10000
set_option maxHeartbeats 1000000
/-- The powers of i. -/
def Ip (q : Int) : Cq := if q % 4 = 0 then ⟨1, 0⟩ else if q % 4 = 1 then ⟨0, 1⟩ else if q % 4 = 2 then ⟨-1, 0⟩ else ⟨0, -1⟩
theorem Ip_is (q : Int) : q % 4 = 0 ∧ Ip q = ⟨1, 0⟩ ∨ q % 4 = 1 ∧ Ip q = ⟨0, 1⟩ ∨ q % 4 = 2 ∧ Ip q = ⟨-1, 0⟩ ∨ q % 4 = 3 ∧ Ip q = ⟨0, -1⟩ := by
  have h : q % 4 = 0 ∨ q % 4 = 1 ∨ q % 4 = 2 ∨ q % 4 = 3 := by omega
  unfold Ip
  rcases h with h | h | h | h <;> rw [h]
  · exact .inl ⟨rfl, rfl⟩
  · exact .inr (.inl ⟨rfl, rfl⟩)
  · exact .inr (.inr (.inl ⟨rfl, rfl⟩))
  · exact .inr (.inr (.inr ⟨rfl, rfl⟩))
theorem Ip_add (p q : Int) : Ip (p + q) = Ip p * Ip q := by
  rcases Ip_is p with ⟨h, e⟩ | ⟨h, e⟩ | ⟨h, e⟩ | ⟨h, e⟩ <;> rcases Ip_is q with ⟨k, f⟩ | ⟨k, f⟩ | ⟨k, f⟩ | ⟨k, f⟩ <;> rw [e, f] <;>
    rcases Ip_is (p + q) with ⟨m, g⟩ | ⟨m, g⟩ | ⟨m, g⟩ | ⟨m, g⟩ <;> first | (exfalso; omega) | (rw [g]; exact Cq.ext (by decide +kernel) (by decide +kernel))
theorem Ip_conj (q : Int) : (Ip q).conj = Ip (-q) := by
  rcases Ip_is q with ⟨h, e⟩ | ⟨h, e⟩ | ⟨h, e⟩ | ⟨h, e⟩ <;> rw [e] <;>
    rcases Ip_is (-q) with ⟨m, g⟩ | ⟨m, g⟩ | ⟨m, g⟩ | ⟨m, g⟩ <;> first | (exfalso; omega) | (rw [g]; exact Cq.ext (by decide +kernel) (by decide +kernel))
theorem Ip_nb (q : Int) : Nb (Ip q) 1 := by
  rcases Ip_is q with ⟨h, e⟩ | ⟨h, e⟩ | ⟨h, e⟩ | ⟨h, e⟩ <;> rw [e] <;> exact ⟨by decide +kernel, by decide +kernel⟩
theorem Cq.conj_mul (z w : Cq) : (z * w).conj = z.conj * w.conj := Cq.ext
  (by show z.re * w.re - z.im * w.im = z.re * w.re - -z.im * -w.im; grind) (by show -(z.re * w.im + z.im * w.re) = z.re * -w.im + -z.im * w.re; grind)
theorem Nd.conj {z w : Cq} {r : Rat} (h : Nd z w r) : Nd z.conj w.conj r :=
  (Nb.conj h).of_eq (Cq.ext (by show z.re - w.re = z.re - w.re; rfl) (by show -(z.im - w.im) = -z.im - -w.im; grind))
theorem Nd.of_eq {z w z' w' : Cq} {r : Rat} (h : Nd z w r) (e : z = z') (f : w = w') : Nd z' w' r := e ▸ f ▸ h
/-- The point at so much of a turn, from -1/8 to 1/8. -/
def Et (a : Rat) : Cq := Ec (a * cir)
theorem cir_pos : 0 < cir ∧ 1 / 8 * cir = YY ∧ cir ≤ 63 / 10 := by decide +kernel
theorem Bd.cirY {a : Rat} (h : Bd a (1 / 8)) : Bd (a * cir) YY := by
  obtain ⟨c0, c1, _⟩ := cir_pos
  exact (h.mul (⟨by grind, by grind⟩ : Bd cir cir)).mono (by rw [c1]; exact Rat.le_refl)
theorem Et_nb {a : Rat} (h : Bd a (1 / 8)) : Nb (Et a) (1 + eta) := Ec_nb h.cirY
theorem Et_add {a b : Rat} (ha : Bd a (1 / 8)) (hb : Bd b (1 / 8)) (hs : Bd (a + b) (1 / 8)) : Nd (Et a * Et b) (Et (a + b)) (42 / 10 * eta) := by
  have h := Ec_add ha.cirY hb.cirY (hs.cirY.of_eq (by grind))
  unfold Et
  rw [show (a + b) * cir = a * cir + b * cir by grind]
  exact h
theorem Et_conj (a : Rat) : (Et a).conj = Et (-a) := by unfold Et; rw [Ec_conj, show -(a * cir) = -a * cir by grind]
theorem Et_eighth : Nd (Ip 1 * Et (-(1 / 8))) (Et (1 / 8)) eta := by
  refine ⟨by decide +kernel, ?_⟩
  decide +kernel
/-- Over an eighth. -/
theorem Et_over {a b : Rat} (ha : Bd a (1 / 8)) (hb : Bd b (1 / 8)) (hs : 1 / 8 ≤ a + b) : Nd (Et a * Et b) (Ip 1 * Et (a + b - 1 / 4)) (14 * eta) := by
  have h1 := ha.1; have h2 := ha.2; have h3 := hb.1; have h4 := hb.2
  have v1 : Bd (1 / 8 - a) (1 / 8) := ⟨by grind, by grind⟩
  have v2 : Bd (a + b - 1 / 8) (1 / 8) := ⟨by grind, by grind⟩
  have e8 : Bd (1 / 8 : Rat) (1 / 8) := ⟨by grind, by grind⟩
  have m8 : Bd (-(1 / 8) : Rat) (1 / 8) := ⟨by grind, by grind⟩
  have s1 := Et_add v1 v2 (hb.of_eq (by grind))
  have s2 := Et_add ha v1 (e8.of_eq (by grind))
  have s3 := Et_add v2 m8 (⟨by grind, by grind⟩)
  rw [show 1 / 8 - a + (a + b - 1 / 8) = b by grind] at s1
  rw [show a + (1 / 8 - a) = 1 / 8 by grind] at s2
  rw [show a + b - 1 / 8 + -(1 / 8) = a + b - 1 / 4 by grind] at s3
  have t1 := s1.symm.mul_l (Et_nb ha)
  have t2 := s2.mul_r (Et_nb v2)
  have t3 := s3.mul_l (Ip_nb 1)
  have t4 := Et_eighth.mul_r (Et_nb v2)
  have t12 : Nd (Et a * Et b) (Et (1 / 8) * Et (a + b - 1 / 8)) _ := t1.trans (t2.of_eq (Cq.mul_assoc _ _ _) rfl)
  have t34 : Nd (Et (1 / 8) * Et (a + b - 1 / 8)) (Ip 1 * Et (a + b - 1 / 4)) _ := t4.symm.trans (t3.of_eq (by rw [Cq.mul_comm (Et (a + b - 1 / 8)), ← Cq.mul_assoc]) rfl)
  exact (t12.trans t34).mono (by decide +kernel)
theorem pt_mul {a b : Rat} (p q : Int) (ha : Bd a (1 / 8)) (hb : Bd b (1 / 8)) : ∃ (r : Int) (c : Rat), Bd c (1 / 8) ∧ (p : Rat) / 4 + a + ((q : Rat) / 4 + b) = (r : Rat) / 4 + c ∧ Nd (Ip p * Et a * (Ip q * Et b)) (Ip r * Et c) (14 * eta) := by
  have e : Ip p * Et a * (Ip q * Et b) = Ip (p + q) * (Et a * Et b) := by
    rw [Ip_add, Cq.mul_assoc, ← Cq.mul_assoc (Et a), Cq.mul_comm (Et a) (Ip q), Cq.mul_assoc (Ip q), ← Cq.mul_assoc (Ip p)]
  have h1 := ha.1; have h2 := ha.2; have h3 := hb.1; have h4 := hb.2
  have n := Ip_nb (p + q)
  have c0 : ((p + q : Int) : Rat) = (p : Rat) + (q : Rat) := Rat.intCast_add p q
  by_cases hu : 1 / 8 ≤ a + b
  · refine ⟨p + q + 1, a + b - 1 / 4, ⟨by grind, by grind⟩, ?_, ?_⟩
    · rw [Rat.intCast_add, c0, show ((1 : Int) : Rat) = 1 from rfl]; grind
    · rw [e, Ip_add (p + q) 1, Cq.mul_assoc]
      exact ((Et_over ha hb hu).mul_l n).mono (by decide +kernel)
  by_cases hl : a + b ≤ -(1 / 8)
  · refine ⟨p + q + -1, a + b + 1 / 4, ⟨by grind, by grind⟩, ?_, ?_⟩
    · rw [Rat.intCast_add, c0, show ((-1 : Int) : Rat) = -1 from rfl]; grind
    · rw [e, Ip_add (p + q) (-1), Cq.mul_assoc]
      have k := (Et_over (a := -a) (b := -b) ha.neg hb.neg (by grind)).conj
      rw [Cq.conj_mul, Cq.conj_mul, Et_conj, Et_conj, Et_conj, Ip_conj] at k
      rw [show - -a = a by grind, show - -b = b by grind, show -(-a + -b - 1 / 4) = a + b + 1 / 4 by grind] at k
      exact (k.mul_l n).mono (by decide +kernel)
  · refine ⟨p + q, a + b, ⟨by grind, by grind⟩, ?_, ?_⟩
    · rw [c0]; grind
    · rw [e]
      exact ((Et_add ha hb ⟨by grind, by grind⟩).mul_l n).mono (by decide +kernel)
theorem pt_unique {a b : Rat} {p q : Int} (ha : Bd a (1 / 8)) (hb : Bd b (1 / 8)) (h : (p : Rat) / 4 + a = (q : Rat) / 4 + b) : Nd (Ip p * Et a) (Ip q * Et b) eta := by
  have h1 := ha.1; have h2 := ha.2; have h3 := hb.1; have h4 := hb.2
  have hd : ((q - p : Int) : Rat) = 4 * (a - b) := by rw [Rat.intCast_sub]; grind
  have lo : ((-1 : Int) : Rat) ≤ ((q - p : Int) : Rat) := by rw [hd, show ((-1 : Int) : Rat) = -1 from rfl]; grind
  have hi : ((q - p : Int) : Rat) ≤ ((1 : Int) : Rat) := by rw [hd, show ((1 : Int) : Rat) = 1 from rfl]; grind
  have lo' := Rat.intCast_le_intCast.1 lo
  have hi' := Rat.intCast_le_intCast.1 hi
  have hc : q - p = -1 ∨ q - p = 0 ∨ q - p = 1 := by omega
  have ep : 0 ≤ eta := by decide +kernel
  rcases hc with hc | hc | hc
  · rw [hc, show ((-1 : Int) : Rat) = -1 from rfl] at hd
    have ea : a = -(1 / 8) := by grind
    have eb : b = 1 / 8 := by grind
    have e : p = q + 1 := by omega
    rw [ea, eb, e, Ip_add, Cq.mul_assoc]
    exact (Et_eighth.mul_l (Ip_nb q)).mono (by grind)
  · rw [hc, show ((0 : Int) : Rat) = 0 from rfl] at hd
    have ea : a = b := by grind
    have e : p = q := by omega
    rw [ea, e]
    exact (Nd.refl _).mono ep
  · rw [hc, show ((1 : Int) : Rat) = 1 from rfl] at hd
    have ea : a = 1 / 8 := by grind
    have eb : b = -(1 / 8) := by grind
    have e : q = p + 1 := by omega
    rw [ea, eb, e, Ip_add, Cq.mul_assoc]
    exact (Et_eighth.symm.mul_l (Ip_nb p)).mono (by grind)
/-- Near the point at t. -/
def Near' (z : Cq) (t ε σ : Rat) : Prop := ∃ (q : Int) (a : Rat), Bd a (1 / 8) ∧ Bd (t - ((q : Rat) / 4 + a)) σ ∧ Nd z (Ip q * Et a) ε
theorem pt_nb {q : Int} {a : Rat} (h : Bd a (1 / 8)) : Nb (Ip q * Et a) (1 + eta) := ((Ip_nb q).mul (Et_nb h)).mono (by grind)
theorem Near'.nb {z : Cq} {t ε σ : Rat} (h : Near' z t ε σ) : Nb z (1 + eta + ε) := by
  obtain ⟨q, a, h1, _, h3⟩ := h
  exact (h3.nb (pt_nb h1)).mono (by grind)
theorem Near'.mul {z w : Cq} {t u ε ε' σ σ' : Rat} (h : Near' z t ε σ) (k : Near' w u ε' σ') (he : ε ≤ 1 / 100) : Near' (z * w) (t + u) (102 / 100 * (ε + ε') + 14 * eta) (σ + σ') := by
  have hn := h.nb
  obtain ⟨p, a, h1, h2, h3⟩ := h
  obtain ⟨q, b, k1, k2, k3⟩ := k
  obtain ⟨r, c, c1, c2, c3⟩ := pt_mul p q h1 k1
  refine ⟨r, c, c1, ?_, ?_⟩
  · rw [← c2]; exact (h2.add k2).of_eq (by grind)
  · have e1 := k3.mul_l hn
    have e2 := h3.mul_r (pt_nb (q := q) k1)
    have t1 : eta ≤ 1 / 1000000 := by decide +kernel
    have x0 := h3.1
    have y0 := k3.1
    have m1 : (1 + eta + ε) * ε' ≤ 102 / 100 * ε' := Rat.mul_le_mul_of_nonneg_right (by grind) y0
    have m2 : (1 + eta) * ε ≤ 102 / 100 * ε := Rat.mul_le_mul_of_nonneg_right (by grind) x0
    exact ((e1.trans e2).trans c3).mono (by grind)
/-- Two that are near points at nearly the same turn. -/
theorem Near'.cmp {z w : Cq} {t u ε ε' σ σ' τ T : Rat} (h : Near' z t ε σ) (k : Near' w u ε' σ') (hτ : Bd (u - t) τ) (hT : τ + σ + σ' ≤ T) (h1 : T ≤ 1 / 100) : Nd w z (ε + ε' + 2 * eta * 8 + (1 + eta) * (T * cir * (1 + T * cir))) := by
  obtain ⟨p, a, h1', h2, h3⟩ := h
  obtain ⟨q, b, k1, k2, k3⟩ := k
  have hD : Bd ((q : Rat) / 4 + b - ((p : Rat) / 4 + a)) T := (((hτ.add h2).sub k2).of_eq (by grind)).mono hT
  obtain ⟨D, hDe⟩ : ∃ D, D = (q : Rat) / 4 + b - ((p : Rat) / 4 + a) := ⟨_, rfl⟩
  rw [← hDe] at hD
  have hD8 : Bd D (1 / 8) := hD.mono (by grind)
  obtain ⟨r, c, c1, c2, c3⟩ := pt_mul p 0 h1' hD8
  rw [show ((0 : Int) : Rat) = 0 from rfl] at c2
  have hu := pt_unique (a := c) (b := b) (p := r) (q := q) c1 k1 (by rw [← c2, hDe]; grind)
  have hone : Nd (Et D) Cq.one (T * cir * (1 + T * cir)) := by
    obtain ⟨d1, d2, d3⟩ := cir_pos
    refine Ec_one (hD.mul (⟨by grind, by grind⟩ : Bd cir cir)) ?_
    rw [← d2]
    exact Rat.mul_le_mul_of_nonneg_right (by grind) (by grind)
  have e1 := hone.mul_l (pt_nb (q := p) h1')
  have e2 : Ip p * Et a * (Ip 0 * Et D) = Ip p * Et a * Et D := by
    have : Ip 0 = Cq.one := rfl
    rw [this, Cq.one_mul]
  rw [e2] at c3
  have e3 : Ip p * Et a * Cq.one = Ip p * Et a := by rw [Cq.mul_comm, Cq.one_mul]
  rw [e3] at e1
  have all := (((k3.trans hu.symm).trans c3.symm).trans e1).trans h3.symm
  have t1 : 0 ≤ eta := by decide +kernel
  exact all.mono (by grind)
end Go.Lk
end

section
/- The arctangent, as the program reckons it. -/
namespace Go.Lk
set_option linter.unusedSimpArgs false
set_option linter.unusedVariables false
set_option maxRecDepth 10000
set_option maxHeartbeats 1000000
theorem sg_of_pos {x : Nat} (hx : isFin x = true) (h : 0 < qv x) : sg x = false := by
  cases hs : sg x with
  | false => rfl
  | true =>
    have h1 := qv_U x
    have h2 : fx x ≤ 0 := by unfold fx sgn; rw [hs]; simp
    have h3 : ((fx x : Int) : Rat) ≤ 0 := by exact_mod_cast h2
    have h4 := Rat.mul_pos h UR_pos
    grind
end Go.Lk
end

section
/- The arctangent, as the program reckons it, of a slope near sine over cosine. -/
namespace Go.Lk
set_option linter.unusedSimpArgs false
set_option linter.unusedVariables false
set_option maxRecDepth 10000
set_option maxHeartbeats 1000000
theorem qv_le_fx {x y : Nat} (h : qv x ≤ qv y) : fx x ≤ fx y := by
  have h1 := Rat.mul_le_mul_of_nonneg_right h (c := UR) (Rat.le_of_lt UR_pos)
  rw [qv_U, qv_U] at h1
  exact Rat.intCast_le_intCast.1 h1
theorem fx_le_qv {x y : Nat} (h : fx x ≤ fx y) : qv x ≤ qv y := by
  have h1 : ((fx x : Int) : Rat) ≤ ((fx y : Int) : Rat) := Rat.intCast_le_intCast.2 h
  rw [← qv_U, ← qv_U] at h1
  exact Rat.not_lt.1 fun h2 => by have := Rat.mul_lt_mul_of_pos_right h2 UR_pos; grind
theorem sg_sub {x y : Nat} (hx : isFin x = true) (hy : isFin y = true) (sx : sg x = false) (h : qv y ≤ qv x) : sg (fsub x y) = false := by
  rw [fsub_fin hx hy, sx, Bool.false_and]
  have := qv_le_fx h
  unfold rnd
  split
  · decide
  · rw [sg_wd (rung_lt _)]
    exact decide_eq_false (by omega)
/-- The other slope, as a float. -/
theorem other {q : Nat} (hq : isFin q = true) (sq : sg q = false) (h1 : qv q ≤ 1) (h2 : 41421356 / 100000000 ≤ qv q) :
    isFin (fdiv (fsub 4607182418800017408 q) (fadd 4607182418800017408 q)) = true ∧ sg (fdiv (fsub 4607182418800017408 q) (fadd 4607182418800017408 q)) = false ∧
    Bd (qv (fdiv (fsub 4607182418800017408 q) (fadd 4607182418800017408 q)) * (1 + qv q) - (1 - qv q)) (6 * eta) ∧ qv (fdiv (fsub 4607182418800017408 q) (fadd 4607182418800017408 q)) ≤ 45 / 100 := by
  obtain ⟨t1, t2, t3, t4⟩ := eta_small
  obtain ⟨o1, o2⟩ := one_q
  have bu : Bd (qv 4607182418800017408 - qv q) 1 := by rw [o2]; exact ⟨by grind, by grind⟩
  have bv : Bd (qv 4607182418800017408 + qv q) 2 := by rw [o2]; exact ⟨by grind, by grind⟩
  obtain ⟨u1, u2⟩ := sub_q o1 hq bu (by decide +kernel)
  obtain ⟨v1, v2⟩ := add_q o1 hq bv (by decide +kernel)
  have su := sg_sub o1 hq (by decide) (by rw [o2]; exact h1)
  rw [o2] at u2 v2
  generalize fsub 4607182418800017408 q = u at *
  generalize fadd 4607182418800017408 q = v at *
  generalize qv q = Q at *
  have nu := (qv_nn su).2
  have hu : qv u ≤ 586 / 1000 := by have := u2.2; grind
  have hv : 1414 / 1000 ≤ qv v := by have := v2.1; grind
  have hv2 : qv v ≤ 3 := by have := v2.2; grind
  have sv := sg_of_pos v1 (by grind)
  obtain ⟨d1, d2, d3⟩ := div_q u1 v1 su sv (by grind) (by grind)
  have nd := (qv_nn d2).2
  generalize fdiv u v = w at *
  have kt : tau * qv v ≤ tau * 3 := Rat.mul_le_mul_of_nonneg_left hv2 t3
  have ku : qv u * eta ≤ 586 / 1000 * eta := Rat.mul_le_mul_of_nonneg_right hu t1
  have hw : qv w ≤ 45 / 100 := by
    refine Rat.not_lt.1 fun hlt => ?_
    have k1 := Rat.mul_le_mul_of_nonneg_left hv (c := qv w) (by grind)
    have := d3.2
    grind
  have bw : Bd (qv w) (45 / 100) := ⟨by grind, hw⟩
  have e1 := bw.mul v2
  have hs := ((d3.sub e1).add u2).of_eq (s := qv w * (1 + Q) - (1 - Q)) (by grind)
  refine ⟨d1, d2, hs.mono ?_, hw⟩
  clear hs e1 d3 u2 v2 bu bv bw
  grind
end Go.Lk
end

section
/- The angle in the first eighth, from two sides that are near its cosine and sine. -/
namespace Go.Lk
set_option linter.unusedSimpArgs false
set_option linter.unusedVariables false
set_option maxRecDepth 10000
set_option maxHeartbeats 1000000
theorem le_cancel {r x z : Rat} (hr : 0 < r) (h : r * x ≤ r * z) : x ≤ z := Rat.not_lt.1 fun h2 => by have := Rat.mul_lt_mul_of_pos_left h2 hr; grind
end Go.Lk
end

section
/- The angle in the first quarter. -/
namespace Go.Lk
set_option linter.unusedSimpArgs false
set_option linter.unusedVariables false
set_option maxRecDepth 10000
set_option maxHeartbeats 1000000
end Go.Lk
end

section
/- A turn the other way round: the conjugate. -/
namespace Go.Lk
open Ieee (Format Datum)
set_option linter.unusedSimpArgs false
set_option linter.unusedVariables false
set_option maxRecDepth 100000
/-! ### By its magnitude and its sign -/
def turnR (a : Nat) : Nat := bif fgt a 4598175219545276416 then (bif fgt (fsub 4602678819172646912 a) 4593671619917905920 then fadd (aneg false (wEighth_1 (fsub 4598175219545276416 (fsub 4602678819172646912 a)))) 0 else fadd (aneg false (wEighth_0 (fsub 4602678819172646912 a))) 0)
  else (bif fgt a 4593671619917905920 then fadd (wEighth_1 (fsub 4598175219545276416 a)) 0 else fadd (wEighth_0 a) 0)
def turnI (a : Nat) : Nat := bif fgt a 4598175219545276416 then (bif fgt (fsub 4602678819172646912 a) 4593671619917905920 then wEighth_0 (fsub 4598175219545276416 (fsub 4602678819172646912 a)) else wEighth_1 (fsub 4602678819172646912 a))
  else (bif fgt a 4593671619917905920 then wEighth_0 (fsub 4598175219545276416 a) else wEighth_1 a)
theorem turn_form {x : Nat} (h : feq (wrapP x) (wrapP x) = true) : wTurn_0 x = turnR (fabs (wrapP x)) ∧ wTurn_1 x = bif flt (wrapP x) 0 then fadd (aneg false (turnI (fabs (wrapP x)))) 0 else fadd (turnI (fabs (wrapP x))) 0 := by
  unfold wTurn_0 wTurn_1 turnR turnI
  rw [h]
  simp only [cond_true]
  cases fgt (fabs (wrapP x)) 4598175219545276416
  · cases fgt (fabs (wrapP x)) 4593671619917905920 <;> cases flt (wrapP x) 0 <;> simp only [cond_true, cond_false, and_self]
  · cases fgt (fsub 4602678819172646912 (fabs (wrapP x))) 4593671619917905920 <;> cases flt (wrapP x) 0 <;> simp only [cond_true, cond_false, and_self]
theorem canon_eighth (a : Nat) : Canon (wEighth_0 a) ∧ Canon (wEighth_1 a) := by
  have k : Canon 4604544271217802189 := ⟨by decide, fun h => by rw [fin_num half_q.1] at h; cases h⟩
  have e0 : wEighth_0 a = bif feq a 4593671619917905920 then 4604544271217802189 else cosE (fmul (fmul a 4618760256179416344) (fmul a 4618760256179416344)) := by kernel_rfl
  have e1 : wEighth_1 a = bif feq a 4593671619917905920 then 4604544271217802189 else fmul (sinE (fmul (fmul a 4618760256179416344) (fmul a 4618760256179416344))) (fmul a 4618760256179416344) := by kernel_rfl
  rw [e0, e1]
  cases feq a 4593671619917905920
  · simp only [cond_false]
    exact ⟨by unfold cosE; exact Canon.fadd _ _, Canon.fmul _ _⟩
  · exact ⟨k, k⟩
theorem Canon.turnI (a : Nat) : Canon (turnI a) := by
  unfold Lk.turnI
  cases fgt a 4598175219545276416
  · cases fgt a 4593671619917905920
    · exact (canon_eighth _).2
    · exact (canon_eighth _).1
  · cases fgt (Lk.fsub 4602678819172646912 a) 4593671619917905920
    · exact (canon_eighth _).2
    · exact (canon_eighth _).1
theorem fin_of_clean {v : Nat} (hc : Canon v) (h : isFin (fadd v 0) = true) : isFin v = true := by
  rcases hc.three with h' | ⟨s, rfl⟩ | rfl
  · exact h'
  · exfalso; revert h; cases s <;> decide +kernel
  · exfalso; revert h; decide +kernel
theorem fin_of_neg {v : Nat} (hc : Canon v) (h : isFin (aneg false v) = true) : isFin v = true := by
  rcases hc.three with h' | ⟨s, rfl⟩ | rfl
  · exact h'
  · exfalso; revert h; cases s <;> decide +kernel
  · exfalso; revert h; decide +kernel
theorem fx_clean {v : Nat} (hc : Canon v) (hf : isFin v = true) : isFin (fadd v 0) = true ∧ fx (fadd v 0) = fx v := by
  rw [fadd_zero hc]
  cases h : feq v 0
  · exact ⟨hf, rfl⟩
  · rw [feq_fin hf fin_zero, fx_0] at h
    exact ⟨fin_zero, by rw [cond_true, fx_0, of_decide_eq_true h]⟩
theorem fx_neg {v : Nat} (hc : Canon v) (hf : isFin v = true) : isFin (aneg false v) = true ∧ fx (aneg false v) = -fx v ∧ Canon (aneg false v) := by
  obtain ⟨n1, n2, n3⟩ := fneg_fin hc.lt hf
  exact ⟨n1, n2, hc.fneg⟩
/-! ### A product with the other sign -/
/-! ### Bounds -/
end Go.Lk
end

section
/- Angles and magnitudes of numbers; the document's. -/
namespace Go.Lk
open Go.Proofs
set_option maxRecDepth 100000
set_option maxHeartbeats 0
set_option linter.unusedVariables false
set_option linter.unusedSimpArgs false
end Go.Lk
end

section
/- Angles of any two sides. -/
namespace Go.Lk
set_option linter.unusedSimpArgs false
set_option linter.unusedVariables false
set_option maxRecDepth 10000
set_option maxHeartbeats 1000000
def Sides (a b : Nat) (β r e : Rat) : Prop := 0 ≤ β ∧ β ≤ 1 / 4 ∧
  ((β ≤ 1 / 8 ∧ Bd (qv (rg a) - r * cF (β * cir)) (r * e) ∧ Bd (qv (rg b) - r * sF (β * cir)) (r * e)) ∨
   (1 / 8 ≤ β ∧ Bd (qv (rg a) - r * sF ((1 / 4 - β) * cir)) (r * e) ∧ Bd (qv (rg b) - r * cF ((1 / 4 - β) * cir)) (r * e)))
theorem cs_q {β : Rat} (h0 : 0 ≤ β) (h1 : β ≤ 1 / 8) : 0 ≤ β * cir ∧ β * cir ≤ YY ∧ 55 / 10 * β ≤ sF (β * cir) ∧ 6 / 10 ≤ cF (β * cir) ∧ sF (β * cir) ≤ 786 / 1000 ∧ cF (β * cir) ≤ 1 := by
  obtain ⟨r1, r2, r3, r4⟩ := cir_le
  have y0 := Rat.mul_nonneg h0 (show 0 ≤ cir by grind)
  have y1 : β * cir ≤ YY := by have := Rat.mul_le_mul_of_nonneg_right h1 (c := cir) (by grind); grind
  obtain ⟨q1, q2, q3, q4, q5, q6, q7⟩ := cs_range y0 y1
  have hY : YY ≤ 786 / 1000 := by decide +kernel
  have := Rat.mul_nonneg h0 (show 0 ≤ cir - 628 / 100 by grind)
  exact ⟨y0, y1, by grind, q7, by grind, by grind⟩
/-- No second side: no angle. -/
theorem Sides.flat {a b : Nat} {β r e : Rat} (h : Sides a b β r e) (hr : 0 < r) (he : e ≤ 1 / 100000) (hb : qv (rg b) = 0) : β ≤ e / 5 := by
  obtain ⟨h0, h1, h2⟩ := h
  rcases h2 with ⟨h2, h3, h4⟩ | ⟨h2, h3, h4⟩
  · obtain ⟨_, _, q3, _⟩ := cs_q h0 h2
    have : sF (β * cir) ≤ e := le_cancel hr (by have := h4.1; rw [hb] at this; grind)
    grind
  · obtain ⟨_, _, _, q4, _⟩ := cs_q (show 0 ≤ 1 / 4 - β by grind) (by grind)
    have : cF ((1 / 4 - β) * cir) ≤ e := le_cancel hr (by have := h4.1; rw [hb] at this; grind)
    grind
theorem Sides.pos {a b : Nat} {β r e : Rat} (h : Sides a b β r e) (hr : 0 < r) (he : e ≤ 1 / 100000) : 0 < qv (rg a) ∨ 0 < qv (rg b) := by
  obtain ⟨h0, h1, h2⟩ := h
  have key : ∀ {v c : Rat}, 6 / 10 ≤ c → Bd (v - r * c) (r * e) → 0 < v := by
    intro v c hc hv
    have k1 := Rat.mul_le_mul_of_nonneg_left hc (c := r) (Rat.le_of_lt hr)
    have k2 := Rat.mul_le_mul_of_nonneg_left he (c := r) (Rat.le_of_lt hr)
    have := hv.1
    grind
  rcases h2 with ⟨h2, h3, h4⟩ | ⟨h2, h3, h4⟩
  · exact .inl (key (cs_q h0 h2).2.2.2.1 h3)
  · exact .inr (key (cs_q (show 0 ≤ 1 / 4 - β by grind) (by grind)).2.2.2.1 h4)
/-! ### Angle -/
theorem zero_q : qv 0 = 0 := by decide +kernel
theorem qv_neg {v : Nat} (hc : Canon v) (hf : isFin v = true) : isFin (aneg false v) = true ∧ qv (aneg false v) = -qv v ∧ Canon (aneg false v) := by
  obtain ⟨h1, h2, h3⟩ := fx_neg hc hf
  exact ⟨h1, by unfold qv; rw [h2, Rat.intCast_neg, Rat.div_def, Rat.div_def, Rat.neg_mul], h3⟩
theorem feq_zero {x : Nat} (h : isFin x = true) : feq x 0 = true ↔ qv x = 0 := by
  rw [feq_fin h fin_zero]
  constructor
  · intro h1
    have h2 := of_decide_eq_true h1
    have : qv x = qv 0 := congrArg (fun z : Int => (z : Rat) / UR) h2
    rw [this, zero_q]
  · intro h1
    refine decide_eq_true ?_
    have h2 := qv_U x
    rw [h1] at h2
    have h3 : ((fx x : Int) : Rat) = ((0 : Int) : Rat) := by rw [← h2]; grind
    exact Rat.intCast_inj.1 h3
end Go.Lk
end

section
/- The sides of a turn. -/
namespace Go.Lk
set_option linter.unusedSimpArgs false
set_option linter.unusedVariables false
set_option maxRecDepth 10000
set_option maxHeartbeats 1000000
theorem rabs_rg {x : Nat} (h : isFin x = true) : qv (rg x) = rabs (qv x) := by
  have h1 := (qv_nn (rg_sg x)).2
  have h2 := qv_rg_abs h
  have h3 : (qv (rg x) - qv x) * (qv (rg x) + qv x) = 0 := by grind
  unfold rabs
  by_cases hn : qv x < 0
  · rw [if_pos hn]
    rcases Rat.mul_eq_zero.1 h3 with h4 | h4 <;> grind
  · rw [if_neg hn]
    rcases Rat.mul_eq_zero.1 h3 with h4 | h4 <;> grind
end Go.Lk
end

section
/- The program's Turn is near the circle's point. -/
namespace Go.Lk
set_option linter.unusedSimpArgs false
set_option linter.unusedVariables false
set_option maxRecDepth 100000
set_option maxHeartbeats 1000000
theorem quart_qv : qv 4598175219545276416 = 1 / 4 := (qv_const (n := 1) (d := 4) (by decide) (by decide +kernel)).trans (by decide +kernel)
theorem half_qv : qv half = 1 / 2 := (qv_const (n := 1) (d := 2) (by decide) (by decide +kernel)).trans (by decide +kernel)
theorem qv_of_fx {x y : Nat} (h : fx x = fx y) : qv x = qv y := by unfold qv; rw [h]
theorem qv_cl {v : Nat} (hc : Canon v) (hf : isFin v = true) : qv (fadd v 0) = qv v := qv_of_fx (fx_clean hc hf).2
theorem qv_cneg {v : Nat} (hc : Canon v) (hf : isFin v = true) : qv (fadd (aneg false v) 0) = -qv v := by
  obtain ⟨g1, g2, g3⟩ := fx_neg hc hf
  rw [qv_cl g3 g1]
  unfold qv
  rw [g2, Rat.intCast_neg]
  grind
theorem rot_a (a : Rat) : Ip 0 * Et a = ⟨cF (a * cir), sF (a * cir)⟩ := by
  have : Ip 0 = Cq.one := rfl
  rw [this, Cq.one_mul]; rfl
theorem rot_b (a : Rat) : Ip 1 * Et (-a) = ⟨sF (a * cir), cF (a * cir)⟩ := by
  obtain ⟨h1, h2⟩ := cF_neg (a * cir)
  unfold Et Ec
  rw [show -a * cir = -(a * cir) by grind, h1, h2]
  exact Cq.ext (by show 0 * cF (a * cir) - 1 * -sF (a * cir) = _; grind) (by show 0 * -sF (a * cir) + 1 * cF (a * cir) = _; grind)
theorem rot_c (a : Rat) : Ip 1 * Et a = ⟨-sF (a * cir), cF (a * cir)⟩ :=
  Cq.ext (by show 0 * cF (a * cir) - 1 * sF (a * cir) = _; grind) (by show 0 * sF (a * cir) + 1 * cF (a * cir) = _; grind)
theorem rot_d (a : Rat) : Ip 2 * Et (-a) = ⟨-cF (a * cir), sF (a * cir)⟩ := by
  obtain ⟨h1, h2⟩ := cF_neg (a * cir)
  unfold Et Ec
  rw [show -a * cir = -(a * cir) by grind, h1, h2]
  exact Cq.ext (by show -1 * cF (a * cir) - 0 * -sF (a * cir) = _; grind) (by show -1 * -sF (a * cir) + 0 * cF (a * cir) = _; grind)
theorem lin_k1 {α b r e E : Rat} (h1 : Bd (b - (1 / 2 - α)) e) (h2 : Bd (r - (1 / 4 - b)) e) (he : e ≤ E) : Bd (α - (1 / 4 + r)) (2 * E) := ((h1.sub h2).of_eq (by grind)).mono (by grind)
theorem lin_k2 {α b e E : Rat} (h1 : Bd (b - (1 / 2 - α)) e) (he : e ≤ E) : Bd (α - (2 / 4 + -b)) (2 * E) := (h1.of_eq (by grind)).mono (by have := h1.nonneg; grind)
theorem lin_k3 {α r e E : Rat} (h1 : Bd (r - (1 / 4 - α)) e) (he : e ≤ E) : Bd (α - (1 / 4 + -r)) (2 * E) := (h1.of_eq (by grind)).mono (by have := h1.nonneg; grind)
theorem lin_k4 {α E : Rat} (hE : 0 ≤ E) : Bd (α - (0 / 4 + α)) (2 * E) := ⟨by grind, by grind⟩
theorem nd8 {x y u v e : Rat} (h : Bd (x - u) (4 * e)) (k : Bd (y - v) (4 * e)) : Nd ⟨x, y⟩ ⟨u, v⟩ (8 * e) := (Nd.of (x := ⟨x, y⟩) (y := ⟨u, v⟩) h k).mono (by grind)
theorem half_in {α : Rat} (h0 : 0 ≤ α) (h1 : α ≤ 1 / 2) : Bd (1 / 2 - α) (1 / 2) := ⟨by grind, by grind⟩
theorem quart_in {α : Rat} (h0 : 0 ≤ α) (h1 : α ≤ 1 / 2) : Bd (1 / 4 - α) (1 / 2) := ⟨by grind, by grind⟩
theorem neg_le0 {a : Rat} (h : 0 ≤ a) : -(1 / 8) ≤ a := by grind
theorem neg_bd {x y e : Rat} (h : Bd (x - y) e) : Bd (-x - -y) e := h.neg.of_eq (by grind)
theorem turnRI {α : Nat} (fa : isFin α = true) (sa : sg α = false) (h2 : 2 * fx α ≤ (U : Int)) : Near' ⟨qv (turnR α), qv (turnI α)⟩ (qv α) (8 * eta) (2 * eta) := by
  have hh := fx_half
  obtain ⟨hq, h8⟩ := fx_quart
  have f4 : isFin 4598175219545276416 = true := by decide
  have f8 : isFin 4593671619917905920 = true := by decide
  have sh : sg half = false := by decide
  have s4 : sg 4598175219545276416 = false := by decide
  have r4 : (fxr (rg 4598175219545276416) : Int) = fx 4598175219545276416 := rfl
  have r8 : (fxr (rg 4593671619917905920) : Int) = fx 4593671619917905920 := rfl
  have eh : half = 4602678819172646912 := rfl
  have a0 : 0 ≤ fx α := by rw [fx_rg sa]; omega
  have et : 1 / 2 * eta + tau ≤ eta := by decide +kernel
  have e0 : 0 ≤ eta := by decide +kernel
  have q0 := (qv_nn sa).2
  have q1 : qv α ≤ 1 / 2 := by
    have := qv_le (x := α) (n := 1) (d := 2) (by decide) (by omega)
    exact this
  -- the end of each way
  have fin : ∀ {r : Nat}, isFin r = true → sg r = false → fx r ≤ fx 4593671619917905920 → Canon (wEighth_0 r) ∧ Canon (wEighth_1 r) ∧ isFin (wEighth_0 r) = true ∧ isFin (wEighth_1 r) = true ∧ Bd (qv (wEighth_0 r) - cF (qv r * cir)) (4 * eta) ∧ Bd (qv (wEighth_1 r) - sF (qv r * cir)) (4 * eta) ∧ Bd (qv r) (1 / 8) := by
    intro r hr hs h18
    have h8' : qv r ≤ 1 / 8 := by
      have := qv_le (x := r) (n := 1) (d := 8) (by decide) (by omega)
      exact this
    obtain ⟨p1, p2, p3, p4, _⟩ := eighth_pair hr hs h8'
    obtain ⟨c0, c1⟩ := eighth_cs hr hs h8'
    have := (qv_nn hs).2
    exact ⟨p3, p4, p1, p2, c0, c1, ⟨neg_le0 this, h8'⟩⟩
  unfold turnR turnI
  rw [← eh]
  by_cases g1 : fx 4598175219545276416 < fx α
  · have g1' : fgt α 4598175219545276416 = true := by rw [fgt_fin fa f4]; exact decide_eq_true g1
    rw [g1', cond_true, cond_true]
    obtain ⟨b1, b2, b3, b4⟩ := sub_range fin_half fa sh sa (d := 4598175219545276416) (by decide) (by omega) (by omega)
    have w1 := (sub_q fin_half fa (B := 1 / 2) (by rw [half_qv]; exact half_in q0 q1) (by decide +kernel)).2
    rw [half_qv] at w1
    generalize fsub half α = b at *
    by_cases g2 : fx 4593671619917905920 < fx b
    · have g2' : fgt b 4593671619917905920 = true := by rw [fgt_fin b1 f8]; exact decide_eq_true g2
      rw [g2', cond_true, cond_true]
      obtain ⟨c1, c2, c3, c4⟩ := sub_range f4 b1 s4 b2 (d := 4593671619917905920) (by decide) (by omega) (by omega)
      have hb4 : qv b ≤ 1 / 4 := by
        have := qv_le (x := b) (n := 1) (d := 4) (by decide) (by omega)
        exact this
      have hb0 := (qv_nn b2).2
      have w2 := (sub_q f4 b1 (B := 1 / 2) (by rw [quart_qv]; exact quart_in hb0 (Rat.le_trans hb4 (by decide +kernel))) (by decide +kernel)).2
      rw [quart_qv] at w2
      obtain ⟨p1, p2, p3, p4, p5, p6, p7⟩ := fin c1 c2 (by omega)
      generalize fsub 4598175219545276416 b = r at *
      refine ⟨1, qv r, p7, ?_, ?_⟩
      · rw [show ((1 : Int) : Rat) = 1 from rfl]
        exact lin_k1 w1 w2 et
      · rw [rot_c, qv_cneg p2 p4]
        exact nd8 (neg_bd p6) p5
    · have g2' : fgt b 4593671619917905920 = false := by rw [fgt_fin b1 f8]; exact decide_eq_false g2
      rw [g2', cond_false, cond_false]
      obtain ⟨p1, p2, p3, p4, p5, p6, p7⟩ := fin b1 b2 (by omega)
      refine ⟨2, -qv b, p7.neg, ?_, ?_⟩
      · rw [show ((2 : Int) : Rat) = 2 from rfl]
        exact lin_k2 w1 et
      · rw [rot_d, qv_cneg p1 p3]
        exact nd8 (neg_bd p5) p6
  · have g1' : fgt α 4598175219545276416 = false := by rw [fgt_fin fa f4]; exact decide_eq_false g1
    rw [g1', cond_false, cond_false]
    by_cases g2 : fx 4593671619917905920 < fx α
    · have g2' : fgt α 4593671619917905920 = true := by rw [fgt_fin fa f8]; exact decide_eq_true g2
      rw [g2', cond_true, cond_true]
      obtain ⟨c1, c2, c3, c4⟩ := sub_range f4 fa s4 sa (d := 4593671619917905920) (by decide) (by omega) (by omega)
      have w2 := (sub_q f4 fa (B := 1 / 2) (by rw [quart_qv]; exact quart_in q0 q1) (by decide +kernel)).2
      rw [quart_qv] at w2
      obtain ⟨p1, p2, p3, p4, p5, p6, p7⟩ := fin c1 c2 (by omega)
      generalize fsub 4598175219545276416 α = r at *
      refine ⟨1, -qv r, p7.neg, ?_, ?_⟩
      · rw [show ((1 : Int) : Rat) = 1 from rfl]
        exact lin_k3 w2 et
      · rw [rot_b, qv_cl p2 p4]
        exact nd8 p6 p5
    · have g2' : fgt α 4593671619917905920 = false := by rw [fgt_fin fa f8]; exact decide_eq_false g2
      rw [g2', cond_false, cond_false]
      obtain ⟨p1, p2, p3, p4, p5, p6, p7⟩ := fin fa sa (by omega)
      refine ⟨0, qv α, p7, ?_, ?_⟩
      · rw [show ((0 : Int) : Rat) = 0 from rfl]
        exact lin_k4 e0
      · rw [rot_a, qv_cl p1 p3]
        exact nd8 p5 p6
theorem Near'.conj {z : Cq} {t ε σ : Rat} (h : Near' z t ε σ) : Near' z.conj (-t) ε σ := by
  obtain ⟨q, a, h1, h2, h3⟩ := h
  refine ⟨-q, -a, h1.neg, ?_, ?_⟩
  · rw [Rat.intCast_neg]; exact h2.neg.of_eq (by grind)
  · have := h3.conj
    rwa [Cq.conj_mul, Ip_conj, Et_conj] at this
theorem Near'.shift {z : Cq} {t ε σ : Rat} (h : Near' z t ε σ) (n : Int) : Near' z (t + (n : Rat)) ε σ := by
  obtain ⟨q, a, h1, h2, h3⟩ := h
  refine ⟨q + 4 * n, a, h1, ?_, ?_⟩
  · rw [Rat.intCast_add, Rat.intCast_mul, show ((4 : Int) : Rat) = 4 from rfl]; exact h2.of_eq (by grind)
  · have e : Ip (q + 4 * n) = Ip q := by unfold Ip; rw [show (q + 4 * n) % 4 = q % 4 by omega]
    rw [e]; exact h3
/-- The point that Turn tells. -/
def tz (x : Nat) : Cq := ⟨qv (wTurn_0 x), qv (wTurn_1 x)⟩
theorem turn_point {x : Nat} (hc : Canon x) (hf : isFin x = true) : Near' (tz x) (qv x) (8 * eta) (2 * eta) := by
  obtain ⟨w1, ⟨t, w2⟩, w3, w4, w5⟩ := wrap_val hc hf
  have hww : feq (wrapP x) (wrapP x) = true := by rw [feq_fin w1 w1]; exact decide_eq_true rfl
  obtain ⟨x0, x1⟩ := turn_form hww
  have hU := UR_pos
  have fa := fin_rg w1
  have sa := rg_sg (wrapP x)
  have hfx : fx (rg (wrapP x)) = ((fxr (rg (wrapP x)) : Nat) : Int) := by have := fx_rg sa; rwa [rg_rg] at this
  have hab := fx_abs (wrapP x)
  have core := turnRI fa sa (by omega)
  have ef := fabs_rg w1
  rw [ef] at x0 x1
  have hcI := Canon.turnI (rg (wrapP x))
  obtain ⟨n1, n2, _⟩ := turn_near hc hf
  have hI : isFin (turnI (rg (wrapP x))) = true := by
    rw [x1] at n2
    cases hs : flt (wrapP x) 0
    · rw [hs] at n2; exact fin_of_clean hcI n2
    · rw [hs] at n2
      exact fin_of_neg hcI (fin_of_clean hcI.fneg n2)
  have hqx : qv (wrapP x) = qv x + (t : Rat) := by
    have e1 := qv_U (wrapP x)
    have e2 := qv_U x
    rw [w2, Rat.intCast_add, Rat.intCast_mul, ← e2] at e1
    have e3 : (((U : Nat) : Int) : Rat) = UR := rfl
    rw [e3] at e1
    have e4 : (qv (wrapP x) - (qv x + (t : Rat))) * UR = 0 := by grind
    rcases Rat.mul_eq_zero.1 e4 with h | h <;> grind
  have key : Near' (tz x) (qv (wrapP x)) (8 * eta) (2 * eta) := by
    unfold tz
    rw [x0, x1]
    cases hs : flt (wrapP x) 0
    · rw [cond_false, qv_cl hcI hI]
      have e : qv (wrapP x) = qv (rg (wrapP x)) := by
        rw [flt_fin w1 fin_zero, fx_0] at hs
        have := of_decide_eq_false hs
        exact qv_of_fx (by omega)
      rw [e]; exact core
    · rw [cond_true, qv_cneg hcI hI]
      have e : qv (wrapP x) = -qv (rg (wrapP x)) := by
        rw [flt_fin w1 fin_zero, fx_0] at hs
        have h3 := of_decide_eq_true hs
        have h4 : fx (wrapP x) = -fx (rg (wrapP x)) := by omega
        unfold qv
        rw [h4, Rat.intCast_neg]; grind
      rw [e]; exact core.conj
  have := key.shift (-t)
  rwa [hqx, Rat.intCast_neg, show qv x + (t : Rat) + -(t : Rat) = qv x by grind] at this
end Go.Lk
end

section
/- Steps of a direction: the next is the one before, turned once more. -/
namespace Go.Lk
set_option linter.unusedSimpArgs false
set_option linter.unusedVariables false
set_option maxRecDepth 100000
set_option maxHeartbeats 1000000
theorem qv_isW {x : Nat} {n : Int} (h : IsW x n) : qv x = (n : Rat) := by
  have hU := UR_pos
  have e := qv_U x
  rw [h.2, Rat.intCast_mul] at e
  have e3 : (((U : Nat) : Int) : Rat) = UR := rfl
  rw [e3] at e
  have e4 : (qv x - (n : Rat)) * UR = 0 := by grind
  rcases Rat.mul_eq_zero.1 e4 with h | h <;> grind
/-- k times x, rounded. -/
def kx (q k : Nat) : Nat := fmul (FloatKind.f64.nearest (iN k)) q
theorem kx_q {q k : Nat} (fq : isFin q = true) (hq : Bd (qv q) 1025) (hk : k ≤ 64) : Canon (kx q k) ∧ isFin (kx q k) = true ∧ Bd (qv (kx q k) - (k : Rat) * qv q) ((k : Rat) * 1025 * eta + tau) := by
  have w := isW_near (n := iN k) (by rw [iN_eq]; omega)
  have e := qv_isW w
  have hk0 : (0 : Rat) ≤ (k : Rat) := by exact_mod_cast Nat.zero_le k
  have hk1 : (k : Rat) ≤ 64 := by exact_mod_cast hk
  have ek : ((iN k : Int) : Rat) = (k : Rat) := rfl
  rw [ek] at e
  obtain ⟨f1, f2⟩ := mul_q w.1 fq (B := (k : Rat) * 1025) (by rw [e]; exact Bd.mul ⟨by grind, Rat.le_refl⟩ hq) (by grind)
  rw [e] at f2
  exact ⟨Canon.fmul _ _, f1, f2⟩
theorem tz_nb {x : Nat} (hc : Canon x) (hf : isFin x = true) : Nb (tz x) (1 + 9 * eta) := (turn_point hc hf).nb.mono (by grind)
theorem step_law {q k : Nat} (cq : Canon q) (fq : isFin q = true) (hq : Bd (qv q) 1025) (hk : k ≤ 63) : Nd (tz (kx q (k + 1))) (tz q * tz (kx q k)) ((2 * (k : Rat) + 1) * (6540 * eta)) := by
  obtain ⟨a1, a2, a3⟩ := kx_q fq hq (show k ≤ 64 by omega)
  obtain ⟨b1, b2, b3⟩ := kx_q fq hq (show k + 1 ≤ 64 by omega)
  have p := (turn_point cq fq).mul (turn_point a1 a2) (by decide +kernel)
  have r := turn_point b1 b2
  have ek : (((k + 1 : Nat)) : Rat) = (k : Rat) + 1 := by exact_mod_cast rfl
  rw [ek] at b3
  have hk0 : (0 : Rat) ≤ (k : Rat) := by exact_mod_cast Nat.zero_le k
  have hk1 : (k : Rat) ≤ 63 := by exact_mod_cast hk
  have hτ : Bd (qv (kx q (k + 1)) - (qv q + qv (kx q k))) ((2 * (k : Rat) + 1) * 1025 * eta + 2 * tau) := ((b3.sub a3).of_eq (by grind)).mono (by grind)
  have t1 : 0 ≤ eta := by decide +kernel
  have t2 : eta ≤ 1 / 1000000000000 := by decide +kernel
  have t3 : tau ≤ eta / 1000000000000 := by decide +kernel
  have t4 : 0 ≤ tau := by decide +kernel
  generalize (k : Rat) = κ at *
  have he := Rat.mul_le_mul_of_nonneg_right hk1 t1
  have hT : (2 * κ + 1) * 1025 * eta + 2 * tau + (2 * eta + 2 * eta) + 2 * eta ≤ (2 * κ + 1) * (1025 * eta) + 7 * eta := by grind
  have hT1 : (2 * κ + 1) * (1025 * eta) + 7 * eta ≤ 1 / 100 := by grind
  have c := p.cmp r hτ hT hT1
  refine c.mono ?_
  obtain ⟨T, hTe⟩ : ∃ T, T = (2 * κ + 1) * (1025 * eta) + 7 * eta := ⟨_, rfl⟩
  rw [← hTe] at hT1 ⊢
  have T0 : 0 ≤ T := by
    have := Rat.mul_nonneg (show 0 ≤ 2 * κ + 1 by grind) (show 0 ≤ 1025 * eta by grind)
    grind
  have T1 : T ≤ 1 / 1000000 := by rw [hTe]; grind
  obtain ⟨c0, _, _⟩ := cir_pos
  have c2 : cir ≤ 62831854 / 10000000 := by decide +kernel
  have Tc : T * cir ≤ T * (62831854 / 10000000) := Rat.mul_le_mul_of_nonneg_left c2 T0
  have Tc0 : 0 ≤ T * cir := Rat.mul_nonneg T0 (Rat.le_of_lt c0)
  have m1 : T * cir * (1 + T * cir) ≤ T * (62831854 / 10000000) * (1 + 1 / 100000) := by
    refine Rat.le_trans (Rat.mul_le_mul_of_nonneg_right Tc (by grind)) (Rat.mul_le_mul_of_nonneg_left (by grind) (by grind))
  have m2 : (1 + eta) * (T * cir * (1 + T * cir)) ≤ (1 + 1 / 1000000) * (T * (62831854 / 10000000) * (1 + 1 / 100000)) := by
    have x0 : 0 ≤ T * cir * (1 + T * cir) := Rat.mul_nonneg Tc0 (by grind)
    refine Rat.le_trans (Rat.mul_le_mul_of_nonneg_left m1 (by grind)) (Rat.mul_le_mul_of_nonneg_right (by grind) (by grind))
  have m3 : (1 + 1 / 1000000) * (T * (62831854 / 10000000) * (1 + 1 / 100000)) ≤ T * (6284 / 1000) := by grind
  have e1 : T * (6284 / 1000) = (2 * κ + 1) * eta * (6441100 / 1000) + eta * (43988 / 1000) := by rw [hTe]; grind
  have k0 : eta * 1 ≤ eta * (2 * κ + 1) := Rat.mul_le_mul_of_nonneg_left (by grind) t1
  grind
end Go.Lk
end

section
/- Null's coefficients at a direction: nothing is left, but for a little. -/
namespace Go.Lk
set_option linter.unusedSimpArgs false
set_option linter.unusedVariables false
set_option maxRecDepth 100000
set_option maxHeartbeats 1000000
def gW : Rat := 1 + 9 * eta
def pE (P B : Rat) : Rat := 3 * (P * eta) + 12 * (B * eta) + 14 * tau
/-- Bounds of the coefficients. -/
def pN : Nat → Nat → Rat
  | 0, 0 => 1
  | 0, _ + 1 => 0
  | i + 1, 0 => gW * pN i 0 + pE 0 (pN i 0)
  | i + 1, k + 1 => if k < i then pN i k + gW * pN i (k + 1) + pE (pN i k) (pN i (k + 1)) else if k = i then pN i i else 0
/-- How far each is off. -/
def pEr : Nat → Nat → Rat
  | 0, _ => 0
  | i + 1, 0 => pE 0 (pN i 0)
  | i + 1, k + 1 => if k < i then pE (pN i k) (pN i (k + 1)) else 0
theorem pN_hi : ∀ i k, i < k → pN i k = 0
  | 0, k + 1, _ => by simp only [pN]
  | i + 1, k + 1, h => by simp only [pN]; rw [if_neg (by omega), if_neg (by omega)]
theorem pN_tab : ∀ i, i < 9 → ∀ k, k < 9 → 0 ≤ pN i k ∧ pN i k ≤ 10000 := by decide +kernel
theorem pN_ok {i : Nat} (hi : i ≤ 8) (k : Nat) : 0 ≤ pN i k ∧ pN i k ≤ 10000 := by
  by_cases h : k < 9
  · exact pN_tab i (by omega) k h
  · rw [pN_hi i k (by omega)]; exact ⟨by decide, by decide +kernel⟩
def pz (p : Nat × Nat) : Cq := ⟨qv p.1, qv p.2⟩
theorem pz_zero : pz (0, 0) = Cq.zero := by
  unfold pz Cq.zero
  simp only [zero_q]
/-- The coefficients: finite, canonical, as great as told; each from the ones before. -/
structure POk (W : Nat → Nat × Nat) (i k : Nat) : Prop where
  f1 : isFin (pc W i k).1 = true
  f2 : isFin (pc W i k).2 = true
  c1 : Canon (pc W i k).1
  c2 : Canon (pc W i k).2
  nb : Nb (pz (pc W i k)) (pN i k)
def WOk (W : Nat → Nat × Nat) (j : Nat) : Prop := isFin (W j).1 = true ∧ isFin (W j).2 = true ∧ Nb (pz (W j)) gW
theorem canon_0 : Canon 0 := ⟨by decide, fun h => absurd h (by decide)⟩
theorem canon_1 : Canon 4607182418800017408 := ⟨by decide, fun h => absurd h (by decide)⟩
theorem POk.zero {W : Nat → Nat × Nat} {i k : Nat} (h : pc W i k = (0, 0)) (hn : pN i k = 0) : POk W i k := by
  constructor
  · rw [h]; exact fin_zero
  · rw [h]; exact fin_zero
  · rw [h]; exact canon_0
  · rw [h]; exact canon_0
  · rw [h, pz_zero, hn]; exact Nb.zero
theorem cms_ok {p q w : Nat × Nat} {P B : Rat} (f1 : isFin p.1 = true) (f2 : isFin p.2 = true) (f3 : isFin q.1 = true) (f4 : isFin q.2 = true) (hw : isFin w.1 = true ∧ isFin w.2 = true ∧ Nb (pz w) gW) (hp : Nb (pz p) P) (hq : Nb (pz q) B) (hP : P ≤ 10000) (hB : B ≤ 10000) :
    isFin (cms p q w).1 = true ∧ isFin (cms p q w).2 = true ∧ Canon (cms p q w).1 ∧ Canon (cms p q w).2 ∧ Nd (pz (cms p q w)) (pz p - pz w * pz q) (pE P B) := by
  obtain ⟨w1, w2, w3⟩ := hw
  obtain ⟨e1, e2, e3⟩ := cms_err f1 f2 f3 f4 w1 w2 hp hq (w3.mono (by decide +kernel)) hP hB
  exact ⟨e1, e2, Canon.fsub _ _, Canon.fsub _ _, e3⟩
theorem pc_rec (W : Nat → Nat × Nat) (i : Nat) : pc W (i + 1) 0 = cms (0, 0) (pc W i 0) (W i) ∧ (∀ k, k < i → pc W (i + 1) (k + 1) = cms (pc W i k) (pc W i (k + 1)) (W i)) ∧ pc W (i + 1) (i + 1) = pc W i i := by
  refine ⟨by simp only [pc], fun k hk => ?_, pc_top W i⟩
  simp only [pc]; rw [if_pos hk]
theorem p_ok (W : Nat → Nat × Nat) : ∀ i, i ≤ 8 → (∀ j, j < i → WOk W j) → ∀ k, POk W i k
  | 0, _, _, 0 => by
    have h : pc W 0 0 = (4607182418800017408, 0) := by simp only [pc]
    constructor
    · rw [h]; decide
    · rw [h]; exact fin_zero
    · rw [h]; exact canon_1
    · rw [h]; exact canon_0
    · rw [h]
      have e : pz (4607182418800017408, 0) = ⟨1, 0⟩ := by unfold pz; simp only [one_q.2, zero_q]
      rw [e]
      exact ⟨by decide +kernel, by decide +kernel⟩
  | 0, _, _, k + 1 => POk.zero (by simp only [pc]) (by simp only [pN])
  | i + 1, hi, hW, 0 => by
    have a := p_ok W i (by omega) (fun j hj => hW j (by omega)) 0
    obtain ⟨n0, n1⟩ := pN_ok (show i ≤ 8 by omega) 0
    obtain ⟨r0, _, _⟩ := pc_rec W i
    have z0 : Nb (pz (0, 0)) 0 := by rw [pz_zero]; exact Nb.zero
    obtain ⟨e1, e2, e3, e4, e5⟩ := cms_ok (p := (0, 0)) fin_zero fin_zero a.f1 a.f2 (hW i (by omega)) z0 a.nb (by decide) n1
    have hb := e5.nb (z0.sub ((hW i (by omega)).2.2.mul a.nb))
    rw [← r0] at e1 e2 e3 e4 hb
    refine ⟨e1, e2, e3, e4, hb.mono ?_⟩
    simp only [pN]
    grind
  | i + 1, hi, hW, k + 1 => by
    obtain ⟨_, r1, r2⟩ := pc_rec W i
    by_cases h1 : k < i
    · have a := p_ok W i (by omega) (fun j hj => hW j (by omega)) k
      have b := p_ok W i (by omega) (fun j hj => hW j (by omega)) (k + 1)
      obtain ⟨n0, n1⟩ := pN_ok (show i ≤ 8 by omega) k
      obtain ⟨m0, m1⟩ := pN_ok (show i ≤ 8 by omega) (k + 1)
      obtain ⟨e1, e2, e3, e4, e5⟩ := cms_ok a.f1 a.f2 b.f1 b.f2 (hW i (by omega)) a.nb b.nb n1 m1
      have hb := e5.nb (a.nb.sub ((hW i (by omega)).2.2.mul b.nb))
      rw [← r1 k h1] at e1 e2 e3 e4 hb
      refine ⟨e1, e2, e3, e4, hb.mono ?_⟩
      simp only [pN]
      rw [if_pos h1]
      grind
    · by_cases h2 : k = i
      · subst h2
        have a := p_ok W k (by omega) (fun j hj => hW j (by omega)) k
        have en : pN (k + 1) (k + 1) = pN k k := by simp only [pN]; rw [if_neg (by omega), if_true]
        exact ⟨by rw [r2]; exact a.f1, by rw [r2]; exact a.f2, by rw [r2]; exact a.c1, by rw [r2]; exact a.c2, by rw [r2, en]; exact a.nb⟩
      · exact POk.zero (pc_hi W _ _ (by omega)) (pN_hi _ _ (by omega))
/-- Each coefficient from the ones before. -/
theorem p_step (W : Nat → Nat × Nat) {i : Nat} (hi : i + 1 ≤ 8) (hW : ∀ j, j < i + 1 → WOk W j) :
    Nd (pz (pc W (i + 1) 0)) (Cq.zero - pz (W i) * pz (pc W i 0)) (pEr (i + 1) 0) ∧ ∀ k, Nd (pz (pc W (i + 1) (k + 1))) (pz (pc W i k) - pz (W i) * pz (pc W i (k + 1))) (pEr (i + 1) (k + 1)) := by
  have ok := p_ok W i (by omega) (fun j hj => hW j (by omega))
  obtain ⟨r0, r1, r2⟩ := pc_rec W i
  have nk := fun k => pN_ok (show i ≤ 8 by omega) k
  refine ⟨?_, fun k => ?_⟩
  · have z0 : Nb (pz (0, 0)) 0 := by rw [pz_zero]; exact Nb.zero
    have e5 := (cms_ok (p := (0, 0)) fin_zero fin_zero (ok 0).f1 (ok 0).f2 (hW i (by omega)) z0 (ok 0).nb (by decide) (nk 0).2).2.2.2.2
    rw [pz_zero, ← r0] at e5
    exact e5
  · by_cases h1 : k < i
    · have e5 := (cms_ok (ok k).f1 (ok k).f2 (ok (k + 1)).f1 (ok (k + 1)).f2 (hW i (by omega)) (ok k).nb (ok (k + 1)).nb (nk k).2 (nk (k + 1)).2).2.2.2.2
      rw [← r1 k h1] at e5
      simp only [pEr]
      rw [if_pos h1]
      exact e5
    · have e0 : pEr (i + 1) (k + 1) = 0 := by simp only [pEr]; rw [if_neg h1]
      have hz : pz (pc W i (k + 1)) = Cq.zero := by rw [pc_hi W _ _ (by omega), pz_zero]
      have e : pz (pc W (i + 1) (k + 1)) = pz (pc W i k) := by
        by_cases h2 : k = i
        · subst h2; rw [r2]
        · rw [pc_hi W _ _ (by omega), pc_hi W _ _ (by omega)]
      rw [e0, hz, e]
      refine Nd.of_eq (Nd.refl (pz (pc W i k))) rfl (Cq.ext ?_ ?_)
      · show _ = (pz (pc W i k)).re - ((pz (W i)).re * 0 - (pz (W i)).im * 0); grind
      · show _ = (pz (pc W i k)).im - ((pz (W i)).re * 0 + (pz (W i)).im * 0); grind
end Go.Lk
end

section
/- Null's polynomial at a direction of its own. -/
namespace Go.Lk
set_option linter.unusedSimpArgs false
set_option linter.unusedVariables false
set_option maxRecDepth 100000
set_option maxHeartbeats 1000000
/-- The polynomial after i factors, at powers s. -/
def Ls (W : Nat → Nat × Nat) (s : Nat → Cq) (i : Nat) : Cq := csum (fun k => pz (pc W i k) * s k) 9
theorem shift_sum (A Q s : Nat → Cq) (z : Cq) (h0 : Q 0 = Cq.zero - z * A 0) (h1 : ∀ k, Q (k + 1) = A k - z * A (k + 1)) : ∀ n, csum (fun k => Q k * s k) (n + 1) = csum (fun k => A k * s (k + 1)) n - z * csum (fun k => A k * s k) (n + 1)
  | 0 => by
    show Cq.zero + Q 0 * s 0 = Cq.zero - z * (Cq.zero + A 0 * s 0)
    rw [h0]
    exact Cq.ext
      (by show 0 + ((0 - (z.re * (A 0).re - z.im * (A 0).im)) * (s 0).re - (0 - (z.re * (A 0).im + z.im * (A 0).re)) * (s 0).im) = 0 - (z.re * (0 + ((A 0).re * (s 0).re - (A 0).im * (s 0).im)) - z.im * (0 + ((A 0).re * (s 0).im + (A 0).im * (s 0).re))); grind)
      (by show 0 + ((0 - (z.re * (A 0).re - z.im * (A 0).im)) * (s 0).im + (0 - (z.re * (A 0).im + z.im * (A 0).re)) * (s 0).re) = 0 - (z.re * (0 + ((A 0).re * (s 0).im + (A 0).im * (s 0).re)) + z.im * (0 + ((A 0).re * (s 0).re - (A 0).im * (s 0).im))); grind)
  | n + 1 => by
    have ih := shift_sum A Q s z h0 h1 n
    have e1 : csum (fun k => Q k * s k) (n + 1 + 1) = csum (fun k => Q k * s k) (n + 1) + Q (n + 1) * s (n + 1) := rfl
    have e2 : csum (fun k => A k * s (k + 1)) (n + 1) = csum (fun k => A k * s (k + 1)) n + A n * s (n + 1) := rfl
    have e3 : csum (fun k => A k * s k) (n + 1 + 1) = csum (fun k => A k * s k) (n + 1) + A (n + 1) * s (n + 1) := rfl
    rw [e1, e2, e3, ih, h1]
    generalize csum (fun k => A k * s (k + 1)) n = X
    generalize csum (fun k => A k * s k) (n + 1) = Y
    generalize A n = a
    generalize A (n + 1) = b
    generalize s (n + 1) = c
    exact Cq.ext
      (by show X.re - (z.re * Y.re - z.im * Y.im) + ((a.re - (z.re * b.re - z.im * b.im)) * c.re - (a.im - (z.re * b.im + z.im * b.re)) * c.im) = X.re + (a.re * c.re - a.im * c.im) - (z.re * (Y.re + (b.re * c.re - b.im * c.im)) - z.im * (Y.im + (b.re * c.im + b.im * c.re))); grind)
      (by show X.im - (z.re * Y.im + z.im * Y.re) + ((a.re - (z.re * b.re - z.im * b.im)) * c.im + (a.im - (z.re * b.im + z.im * b.re)) * c.re) = X.im + (a.re * c.im + a.im * c.re) - (z.re * (Y.im + (b.re * c.im + b.im * c.re)) + z.im * (Y.re + (b.re * c.re - b.im * c.im))); grind)
theorem csum_mul (z : Cq) (f : Nat → Cq) : ∀ n, csum (fun k => z * f k) n = z * csum f n
  | 0 => Cq.ext (by show (0 : Rat) = z.re * 0 - z.im * 0; grind) (by show (0 : Rat) = z.re * 0 + z.im * 0; grind)
  | n + 1 => by
    show csum (fun k => z * f k) n + z * f n = z * (csum f n + f n)
    rw [csum_mul z f n]
    exact Cq.ext (by show z.re * (csum f n).re - z.im * (csum f n).im + (z.re * (f n).re - z.im * (f n).im) = z.re * ((csum f n).re + (f n).re) - z.im * ((csum f n).im + (f n).im); grind)
      (by show z.re * (csum f n).im + z.im * (csum f n).re + (z.re * (f n).im + z.im * (f n).re) = z.re * ((csum f n).im + (f n).im) + z.im * ((csum f n).re + (f n).re); grind)
/-- How far a step is off. -/
def dl1 (k : Nat) : Rat := (2 * (k : Rat) + 1) * (6540 * eta)
def dS (i : Nat) : Rat := rsum (fun k => gW * pEr (i + 1) k) 9 + rsum (fun k => pN i k * dl1 k) 8
def dB : Nat → Rat
  | 0 => 0
  | i + 1 => 2 * gW * dB i + dS i
theorem L_step (W : Nat → Nat × Nat) {i : Nat} (hi : i + 1 ≤ 8) (hW : ∀ j, j < i + 1 → WOk W j) (s : Nat → Cq) (z : Cq) (hs : ∀ k, k < 9 → Nb (s k) gW) (hd : ∀ k, k < 8 → Nd (s (k + 1)) (z * s k) (dl1 k)) :
    Nd (Ls W s (i + 1)) ((z - pz (W i)) * Ls W s i) (dS i) := by
  have ok := p_ok W i (by omega) (fun j hj => hW j (by omega))
  obtain ⟨p0, p1⟩ := p_step W hi hW
  obtain ⟨Q, hQ⟩ : ∃ Q : Nat → Cq, Q = fun k => match k with | 0 => Cq.zero - pz (W i) * pz (pc W i 0) | k + 1 => pz (pc W i k) - pz (W i) * pz (pc W i (k + 1)) := ⟨_, rfl⟩
  have q0 : Q 0 = Cq.zero - pz (W i) * pz (pc W i 0) := by rw [hQ]
  have q1 : ∀ k, Q (k + 1) = pz (pc W i k) - pz (W i) * pz (pc W i (k + 1)) := fun k => by rw [hQ]
  have a1 : Nd (Ls W s (i + 1)) (csum (fun k => Q k * s k) 9) (rsum (fun k => gW * pEr (i + 1) k) 9) := by
    refine csum_nd fun k hk => ?_
    cases k with
    | zero => rw [q0]; exact p0.mul_r (hs 0 hk)
    | succ k => rw [q1]; exact (p1 k).mul_r (hs (k + 1) hk)
  have a2 := shift_sum (fun k => pz (pc W i k)) Q s (pz (W i)) q0 q1 8
  have a3 : Nd (csum (fun k => pz (pc W i k) * s (k + 1)) 8) (csum (fun k => z * (pz (pc W i k) * s k)) 8) (rsum (fun k => pN i k * dl1 k) 8) := by
    refine csum_nd fun k hk => ?_
    refine ((hd k hk).mul_l (ok k).nb).of_eq rfl ?_
    rw [← Cq.mul_assoc, Cq.mul_comm (pz (pc W i k)) z, Cq.mul_assoc]
  rw [csum_mul] at a3
  have a4 : csum (fun k => pz (pc W i k) * s k) 8 = Ls W s i := by
    have hz : pz (pc W i 8) = Cq.zero := by rw [pc_hi W _ _ (by omega), pz_zero]
    show _ = csum (fun k => pz (pc W i k) * s k) 8 + pz (pc W i 8) * s 8
    rw [hz]
    exact Cq.ext (by show _ = _ + (0 * (s 8).re - 0 * (s 8).im); grind) (by show _ = _ + (0 * (s 8).im + 0 * (s 8).re); grind)
  rw [a4] at a3
  rw [a2] at a1
  have a5 : Nd (csum (fun k => pz (pc W i k) * s (k + 1)) 8 - pz (W i) * csum (fun k => pz (pc W i k) * s k) 9) ((z - pz (W i)) * Ls W s i) (rsum (fun k => pN i k * dl1 k) 8) := by
    have e9 : csum (fun k => pz (pc W i k) * s k) 9 = Ls W s i := rfl
    rw [e9]
    generalize csum (fun k => pz (pc W i k) * s (k + 1)) 8 = X at *
    generalize Ls W s i = Y at *
    generalize pz (W i) = w at *
    refine Nb.of_eq a3 (Cq.ext ?_ ?_)
    · show X.re - (z.re * Y.re - z.im * Y.im) = X.re - (w.re * Y.re - w.im * Y.im) - ((z.re - w.re) * Y.re - (z.im - w.im) * Y.im); grind
    · show X.im - (z.re * Y.im + z.im * Y.re) = X.im - (w.re * Y.im + w.im * Y.re) - ((z.re - w.re) * Y.im + (z.im - w.im) * Y.re); grind
  exact a1.trans a5
theorem dB_nn : ∀ i, i < 9 → 0 ≤ dB i := by decide +kernel
/-- After the factor of a direction itself, at that direction. -/
theorem L_small (W : Nat → Nat × Nat) {t : Nat} (s : Nat → Cq) (z : Cq) (hz : z = pz (W t)) (hzb : Nb z gW) (hs : ∀ k, k < 9 → Nb (s k) gW) (hd : ∀ k, k < 8 → Nd (s (k + 1)) (z * s k) (dl1 k)) :
    ∀ i, t < i → i ≤ 8 → (∀ j, j < i → WOk W j) → Nb (Ls W s i) (dB i)
  | 0, h, _, _ => absurd h (Nat.not_lt_zero t)
  | i + 1, h, hi, hW => by
    have st := L_step W hi hW s z hs hd
    by_cases e : t = i
    · subst e
      have hzero : (z - pz (W t)) * Ls W s t = Cq.zero := by
        rw [hz]
        exact Cq.ext (by show ((pz (W t)).re - (pz (W t)).re) * _ - ((pz (W t)).im - (pz (W t)).im) * _ = 0; grind) (by show ((pz (W t)).re - (pz (W t)).re) * _ + ((pz (W t)).im - (pz (W t)).im) * _ = 0; grind)
      rw [hzero] at st
      have hb := st.nb Nb.zero
      have hn := dB_nn t (by omega)
      have hg : 0 ≤ gW := by decide +kernel
      have hgn := Rat.mul_nonneg hg hn
      refine hb.mono ?_
      show dS t + 0 ≤ 2 * gW * dB t + dS t
      grind
    · have ih := L_small W s z hz hzb hs hd i (by omega) (by omega) (fun j hj => hW j (by omega))
      have hb := st.nb ((hzb.sub (hW i (by omega)).2.2).mul ih)
      refine hb.mono ?_
      show dS i + (gW + gW) * dB i ≤ 2 * gW * dB i + dS i
      grind
end Go.Lk
end

section
/- Sums and products of floats of any size: errors by what they are. -/
namespace Go.Lk
set_option linter.unusedSimpArgs false
set_option linter.unusedVariables false
set_option maxRecDepth 10000
set_option maxHeartbeats 1000000
/-! ### Products -/
end Go.Lk
end

section
/- BeamBack: quotients with a sign; products by one; turns that are not wrapped. -/
namespace Go.Lk
set_option linter.unusedSimpArgs false
set_option linter.unusedVariables false
set_option maxRecDepth 10000
set_option maxHeartbeats 1000000
end Go.Lk
end

section
/- Scaled sides. -/
namespace Go.Lk
set_option linter.unusedSimpArgs false
set_option linter.unusedVariables false
set_option maxRecDepth 10000
set_option maxHeartbeats 1000000
end Go.Lk
end

section
/- Angles of any two sides, whole turns apart. -/
namespace Go.Lk
set_option linter.unusedSimpArgs false
set_option linter.unusedVariables false
set_option maxRecDepth 10000
set_option maxHeartbeats 1000000
end Go.Lk
end

section
/- Bearings, there and back. -/
namespace Go.Lk
set_option linter.unusedSimpArgs false
set_option linter.unusedVariables false
set_option maxRecDepth 10000
set_option maxHeartbeats 1000000
end Go.Lk
end

section
/- Magnitudes of any size. -/
namespace Go.Lk
set_option linter.unusedSimpArgs false
set_option linter.unusedVariables false
set_option maxRecDepth 10000
set_option maxHeartbeats 1000000
theorem sqrt_two {t : Nat} (ft : isFin t = true) (st : sg t = false) (ht : qv t ≤ 201 / 100) : isFin (fsqrt t) = true ∧ sg (fsqrt t) = false ∧ Bd (qv (fsqrt t) * qv (fsqrt t) - qv t) (5 * eta) ∧ qv (fsqrt t) ≤ 142 / 100 := by
  obtain ⟨t1, t2, t3, t4⟩ := eta_small
  obtain ⟨q1, q2, l, l0, l1, l2, l3, l4⟩ := sqrt_q ft st (by grind)
  have nR := (qv_nn q2).2
  generalize qv (fsqrt t) = R at *
  generalize qv t = T at *
  have hl1 : l ≤ 1418 / 1000 := by
    refine Rat.not_lt.1 fun h => ?_
    have := sqr_le (show (0 : Rat) ≤ 1418 / 1000 by decide +kernel) (Rat.le_of_lt h)
    grind
  have k1 := Rat.mul_le_mul_of_nonneg_right hl1 t1
  have hR1 : R ≤ l + (1418 / 1000 * eta + tau) := by grind
  have k2 : R * R ≤ (l + (1418 / 1000 * eta + tau)) * (l + (1418 / 1000 * eta + tau)) := sqr_le nR hR1
  have k3 : l * l ≤ R * R := sqr_le l0 l2
  have k4 : (l + l * eta + tau) * (l + l * eta + tau) ≤ (l + (1418 / 1000 * eta + tau)) * (l + (1418 / 1000 * eta + tau)) := by
    have := Rat.mul_nonneg l0 t1
    exact sqr_le (by grind) (by grind)
  have k5 : (l + (1418 / 1000 * eta + tau)) * (l + (1418 / 1000 * eta + tau)) ≤ l * l + 5 * eta := by
    have h1 := Rat.mul_le_mul_of_nonneg_right hl1 (c := 1418 / 1000 * eta + tau) (by grind)
    have h2 : (1418 / 1000 * eta + tau) * (1418 / 1000 * eta + tau) ≤ eta / 2 := by decide +kernel
    grind
  have t5 : 1418 / 1000 * eta + tau ≤ 1 / 1000 := by decide +kernel
  exact ⟨q1, q2, ⟨by grind, by grind⟩, by grind⟩
end Go.Lk
end

section
/- PlaceBack: so many metres in a direction, and back. -/
namespace Go.Lk
set_option linter.unusedSimpArgs false
set_option linter.unusedVariables false
set_option maxRecDepth 10000
set_option maxHeartbeats 1000000
theorem abs_parts {a b : Nat} (ha : isFin a = true) (hb : isFin b = true) (hp : 0 < qv (rg a) ∨ 0 < qv (rg b)) : ∃ m n, ((m = rg a ∧ n = rg b) ∨ (m = rg b ∧ n = rg a)) ∧ qv n ≤ qv m ∧ bAbs_0 a b = fmul m (fsqrt (fadd 4607182418800017408 (fmul (fdiv n m) (fdiv n m)))) := by
  have k1 : ((0 : Int) == Int.ofNat 1) = false := by decide
  have k2 : ((0 : Int) == Int.ofNat 2) = false := by decide
  have z : ∀ {x : Nat}, isFin x = true → 0 < qv x → feq x 0 = false := by
    intro x hx h
    cases he : feq x 0 with
    | false => rfl
    | true => have := (feq_zero hx).1 he; grind
  unfold bAbs_0
  rw [bAbs_kind ha hb, k1, k2, cond_false, cond_false, fabs_rg ha, fabs_rg hb]
  rcases max_min (fin_rg ha) (fin_rg hb) (rg_sg a) (rg_sg b) with ⟨e1, e2, e3⟩ | ⟨e1, e2, e3⟩
  · rw [e1, e2, z (fin_rg ha) (by rcases hp with h | h <;> grind), cond_false]
    exact ⟨_, _, .inl ⟨rfl, rfl⟩, e3, rfl⟩
  · rw [e1, e2, z (fin_rg hb) (by rcases hp with h | h <;> grind), cond_false]
    exact ⟨_, _, .inr ⟨rfl, rfl⟩, e3, rfl⟩
end Go.Lk
end

section
/- A magnitude as Abs tells it is no greater than the magnitude, but for a little; sums of floats. -/
namespace Go.Lk
set_option linter.unusedSimpArgs false
set_option linter.unusedVariables false
set_option maxRecDepth 100000
set_option maxHeartbeats 1000000
theorem ab_1 {Q M N : Rat} (hM : 0 < M) (hN : 0 ≤ N) (hNM : N ≤ M) (h : Bd (Q * M - N) (N * eta + tau * M)) : Q ≤ 1001 / 1000 := by
  obtain ⟨t1, t2, t3, t4⟩ := et_small
  have k := Rat.mul_le_mul_of_nonneg_right hNM t1
  have k2 := Rat.mul_le_mul_of_nonneg_left t2 (Rat.le_of_lt hM)
  have k3 := Rat.mul_le_mul_of_nonneg_right t4 (Rat.le_of_lt hM)
  refine Rat.le_of_mul_le_mul_right (c := M) ?_ hM
  have := h.2
  grind
theorem ab_2 {Q M N : Rat} (hM : 0 < M) (hN : 0 ≤ N) (hNM : N ≤ M) (hQ : 0 ≤ Q) (h : Bd (Q * M - N) (N * eta + tau * M)) : Q * M * (Q * M) ≤ N * N + 3 * eta * (M * M) := by
  obtain ⟨t1, t2, t3, t4⟩ := et_small
  have hM0 := Rat.le_of_lt hM
  have k := Rat.mul_le_mul_of_nonneg_right hNM t1
  have k3 := Rat.mul_le_mul_of_nonneg_right t4 hM0
  have e : Q * M ≤ N + 11 / 10 * eta * M := by
    have := h.2
    have k5 := Rat.mul_nonneg t1 hM0
    grind
  have q0 := Rat.mul_nonneg hQ hM0
  have s := sqr_le q0 e
  refine Rat.le_trans s ?_
  have m0 := Rat.mul_nonneg hM0 hM0
  have m1 := Rat.mul_le_mul_of_nonneg_right hNM hM0
  have m2 : eta * (N * M) ≤ eta * (M * M) := Rat.mul_le_mul_of_nonneg_left m1 t1
  have m3 : eta * eta * (M * M) ≤ eta * (1 / 1000000000000) * (M * M) := Rat.mul_le_mul_of_nonneg_right (Rat.mul_le_mul_of_nonneg_left t2 t1) m0
  have m4 := Rat.mul_nonneg t1 m0
  clear s e h k k3
  grind
theorem ab_3 {S T Q M N r : Rat} (hM : 0 < M) (hS : Bd (S * S - T) (5 * eta)) (hT : T ≤ 1 + Q * Q + 4 * eta) (hq : Q * M * (Q * M) ≤ N * N + 3 * eta * (M * M)) (hr : M * M + N * N ≤ r * r) (hr0 : 0 ≤ r) (hN : 0 ≤ N * N) : S * M ≤ r * (1 + 6 * eta) := by
  obtain ⟨t1, t2, t3, t4⟩ := et_small
  refine le_of_sq (Rat.mul_nonneg hr0 (by grind)) ?_
  have m0 := Rat.mul_nonneg (Rat.le_of_lt hM) (Rat.le_of_lt hM)
  have k : S * S ≤ 1 + Q * Q + 9 * eta := by have := hS.2; grind
  have k2 := Rat.mul_le_mul_of_nonneg_right k m0
  have k3 : eta * (M * M) ≤ eta * (r * r) := Rat.mul_le_mul_of_nonneg_left (by grind) t1
  have k4 : 0 ≤ eta * eta * (r * r) := Rat.mul_nonneg (Rat.mul_nonneg t1 t1) (sq_nn r)
  clear k hS hT
  grind
theorem ab_4 {r e B : Rat} (hr0 : 0 ≤ r) (hr1 : r ≤ 1) (h : Bd (e - B) (r * (1 + 6 * eta) * eta + tau)) (hB : B ≤ r * (1 + 6 * eta)) : e ≤ r * (1 + 8 * eta) + tau := by
  obtain ⟨t1, t2, t3, t4⟩ := et_small
  have k := Rat.mul_nonneg hr0 t1
  have k2 : r * eta * eta ≤ r * eta * (1 / 1000000000000) := Rat.mul_le_mul_of_nonneg_left t2 k
  have := h.2
  grind
theorem abs_le {a b : Nat} {r : Rat} (fa : isFin a = true) (fb : isFin b = true) (h : Nb ⟨qv a, qv b⟩ r) (hr : r ≤ 1) : isFin (bAbs_0 a b) = true ∧ qv (bAbs_0 a b) ≤ r * (1 + 8 * eta) + tau := by
  obtain ⟨t1, t2, t3, t4⟩ := et_small
  have hr0 := h.1
  have hsq : qv a * qv a + qv b * qv b ≤ r * r := h.2
  rw [← qv_rg_abs fa, ← qv_rg_abs fb] at hsq
  have na := (qv_nn (rg_sg a)).2
  have nb := (qv_nn (rg_sg b)).2
  by_cases hp : 0 < qv (rg a) ∨ 0 < qv (rg b)
  · obtain ⟨m, n, hmn, hle, e⟩ := abs_parts fa fb hp
    have hm : isFin m = true ∧ sg m = false ∧ 0 < qv m := by
      rcases hmn with ⟨rfl, rfl⟩ | ⟨rfl, rfl⟩
      · exact ⟨fin_rg fa, rg_sg a, by rcases hp with h | h <;> grind⟩
      · exact ⟨fin_rg fb, rg_sg b, by rcases hp with h | h <;> grind⟩
    have hn : isFin n = true ∧ sg n = false ∧ 0 ≤ qv n := by
      rcases hmn with ⟨rfl, rfl⟩ | ⟨rfl, rfl⟩
      · exact ⟨fin_rg fb, rg_sg b, nb⟩
      · exact ⟨fin_rg fa, rg_sg a, na⟩
    have hsq2 : qv m * qv m + qv n * qv n ≤ r * r := by
      rcases hmn with ⟨rfl, rfl⟩ | ⟨rfl, rfl⟩
      · exact hsq
      · rw [Rat.add_comm]; exact hsq
    rw [e]
    clear e hmn hsq hp na nb h
    obtain ⟨fm, sm, pm⟩ := hm
    obtain ⟨fn, sn, pn⟩ := hn
    obtain ⟨d1, d2, d3⟩ := div_q fn fm sn sm pm hle
    have Q0 := (qv_nn d2).2
    have Q1 := ab_1 pm pn hle d3
    have hq := ab_2 pm pn hle Q0 d3
    generalize fdiv n m = q at *
    have Qb : Bd (qv q) (1001 / 1000) := ⟨by grind, Q1⟩
    obtain ⟨p1, p2⟩ := mul_q d1 d1 (Qb.mul Qb) (by decide +kernel)
    have QQ : Bd (qv q * qv q) (1001 / 1000 * (1001 / 1000)) := Qb.mul Qb
    have pb : Bd (qv 4607182418800017408 + qv (fmul q q)) (21 / 10) := by
      rw [one_q.2]
      exact (((p2.add QQ).add (⟨by decide +kernel, by decide +kernel⟩ : Bd (1 : Rat) 1)).of_eq (by grind)).mono (by decide +kernel)
    obtain ⟨a1, a2⟩ := add_q one_q.1 p1 pb (by decide +kernel)
    rw [one_q.2] at a2
    have sqq := sq_nn (qv q)
    have hTu : qv (fadd 4607182418800017408 (fmul q q)) ≤ 1 + qv q * qv q + 4 * eta := by
      have h1 := a2.2
      have h2 := p2.2
      have h3 : 1001 / 1000 * (1001 / 1000) * eta + tau + (21 / 10 * eta + tau) ≤ 4 * eta := by decide +kernel
      grind
    have hTl : 1 / 2 ≤ qv (fadd 4607182418800017408 (fmul q q)) := by
      have h1 := a2.1
      have h2 := p2.1
      have h3 : 1001 / 1000 * (1001 / 1000) * eta + tau + (21 / 10 * eta + tau) ≤ 4 * eta := by decide +kernel
      grind
    have hT2 : qv (fadd 4607182418800017408 (fmul q q)) ≤ 201 / 100 := by
      have := QQ.2
      grind
    generalize fadd 4607182418800017408 (fmul q q) = T at *
    obtain ⟨s1, s2, s3, s4⟩ := sqrt_two a1 (sg_of_pos a1 (by grind)) hT2
    have S0 := (qv_nn s2).2
    have hSM := ab_3 pm s3 hTu hq hsq2 hr0 (sq_nn (qv n))
    generalize fsqrt T = s at *
    have b0 := Rat.mul_nonneg S0 (Rat.le_of_lt pm)
    have hr6 : r * (1 + 6 * eta) ≤ 1125899906842624 := by
      have := Rat.mul_le_mul_of_nonneg_left t2 hr0
      grind
    have hb : Bd (qv m * qv s) (r * (1 + 6 * eta)) := by rw [Rat.mul_comm]; exact ⟨by grind, hSM⟩
    obtain ⟨r1, r2⟩ := mul_q fm s1 hb hr6
    exact ⟨r1, ab_4 hr0 hr r2 hb.2⟩
  · have za : qv (rg a) = 0 := by grind
    have zb : qv (rg b) = 0 := by grind
    have e : bAbs_0 a b = 0 := by
      have k1 : ((0 : Int) == Int.ofNat 1) = false := by decide
      have k2 : ((0 : Int) == Int.ofNat 2) = false := by decide
      unfold bAbs_0
      rw [bAbs_kind fa fb, k1, k2, cond_false, cond_false, fabs_rg fa, fabs_rg fb]
      rcases max_min (fin_rg fa) (fin_rg fb) (rg_sg a) (rg_sg b) with ⟨e1, e2, e3⟩ | ⟨e1, e2, e3⟩
      · rw [e1, (feq_zero (fin_rg fa)).2 za]; rfl
      · rw [e1, (feq_zero (fin_rg fb)).2 zb]; rfl
    rw [e, zero_q]
    refine ⟨fin_zero, ?_⟩
    have := Rat.mul_nonneg hr0 (show 0 ≤ 1 + 8 * eta by grind)
    grind
/-! ### Sums -/
theorem sm_1 {S x : Rat} {k : Rat} (hS : 0 ≤ S) (hS2 : S ≤ 1000000) (hk0 : 0 ≤ k) (hk : k ≤ 64) : S + k * (2 * S * eta + 2 * tau) ≤ 1125899906842624 ∧ k * (2 * S * eta + 2 * tau) + ((S + k * (2 * S * eta + 2 * tau)) * eta + tau) ≤ (k + 1) * (2 * S * eta + 2 * tau) := by
  obtain ⟨t1, t2, t3, t4⟩ := et_small
  have a := Rat.mul_nonneg hS t1
  have b : k * (2 * S * eta + 2 * tau) ≤ 64 * (2 * S * eta + 2 * tau) := Rat.mul_le_mul_of_nonneg_right hk (by grind)
  have c : S * eta ≤ S * (1 / 1000000000000) := Rat.mul_le_mul_of_nonneg_left t2 hS
  have d : 64 * (2 * S * eta + 2 * tau) * eta ≤ 64 * (2 * S * eta + 2 * tau) * (1 / 1000000000000) := Rat.mul_le_mul_of_nonneg_left t2 (by grind)
  have e : k * (2 * S * eta + 2 * tau) * eta ≤ 64 * (2 * S * eta + 2 * tau) * eta := Rat.mul_le_mul_of_nonneg_right b t1
  constructor
  · clear d e; grind
  · generalize hX : k * (2 * S * eta + 2 * tau) = X at *
    have : (k + 1) * (2 * S * eta + 2 * tau) = X + (2 * S * eta + 2 * tau) := by rw [← hX]; grind
    rw [this]
    clear hX b this
    grind
theorem smA_err {f : Nat → Nat} {S : Rat} (hS2 : S ≤ 1000000) : ∀ {k : Nat}, k ≤ 64 → (∀ i, i ≤ k → isFin (f i) = true) → (∀ i, i ≤ k → Bd (rsum (fun i => qv (f i)) (i + 1)) S) → isFin (smA f k) = true ∧ Bd (qv (smA f k) - rsum (fun i => qv (f i)) (k + 1)) ((k : Rat) * (2 * S * eta + 2 * tau))
  | 0, _, hf, _ => by
    refine ⟨hf 0 (Nat.le_refl _), ?_⟩
    show Bd (qv (f 0) - (0 + qv (f 0))) (((0 : Nat) : Rat) * (2 * S * eta + 2 * tau))
    rw [show ((0 : Nat) : Rat) = 0 from rfl]
    exact ⟨by grind, by grind⟩
  | k + 1, hk, hf, hb => by
    obtain ⟨g1, g2⟩ := smA_err hS2 (k := k) (by omega) (fun i hi => hf i (by omega)) (fun i hi => hb i (by omega))
    have hS0 := (hb 0 (by omega)).nonneg
    have hk0 : (0 : Rat) ≤ (k : Rat) := by exact_mod_cast Nat.zero_le k
    have hk1 : (k : Rat) ≤ 64 := by exact_mod_cast (show k ≤ 64 by omega)
    obtain ⟨l1, l2⟩ := sm_1 (x := 0) hS0 hS2 hk0 hk1
    have e : rsum (fun i => qv (f i)) (k + 1 + 1) = rsum (fun i => qv (f i)) (k + 1) + qv (f (k + 1)) := rfl
    have hb2 := hb (k + 1) (Nat.le_refl _)
    rw [e] at hb2
    obtain ⟨a1, a2⟩ := add_q g1 (hf (k + 1) (Nat.le_refl _)) ((hb2.add g2).of_eq (by grind)) l1
    refine ⟨a1, ?_⟩
    have ek : (((k + 1 : Nat)) : Rat) = (k : Rat) + 1 := by exact_mod_cast rfl
    rw [e, ek]
    exact ((g2.add a2).of_eq (by show _ = qv (fadd (smA f k) (f (k + 1))) - _; grind)).mono l2
end Go.Lk
end

section
/- BeamDeaf: the plain law. -/
namespace Go.Lk
set_option linter.unusedSimpArgs false
set_option linter.unusedVariables false
set_option maxRecDepth 100000
set_option maxHeartbeats 1000000
def cM (m k : Nat) : Rat := gW * pN m k + 8 * (gW * pN m k * eta)
def eM (m k : Nat) : Rat := 8 * (gW * pN m k * eta)
def sM (m : Nat) : Rat := rsum (cM m) 9 + 640 * tau
def fE (m : Nat) : Rat := 128 * (2 * sM m * eta + 2 * tau) + (rsum (eM m) 9 + 640 * tau)
def mostQ (m : Nat) : Rat := 4 ^ m / 1099511627776
theorem all_small : ∀ m, m < 9 → 0 < m → dB m + fE m ≤ mostQ m * (9 / 10) ∧ mostQ m ≤ 1 / 1000 ∧ sM m ≤ 1000000 ∧ 0 ≤ mostQ m ∧ 1 / 1099511627776 ≤ mostQ m := by decide +kernel
/-- The bound, as the law reckons it. -/
def mostF : Nat → Nat
  | 0 => 4427038433705197568
  | m + 1 => fmul 4616189618054758400 (mostF m)
theorem mostF_q : ∀ m, m < 9 → isFin (mostF m) = true ∧ fx (mostF m) * 1099511627776 = 4 ^ m * (U : Int) := by decide +kernel
theorem mostF_v {m : Nat} (h : m < 9) : isFin (mostF m) = true ∧ qv (mostF m) = mostQ m := by
  obtain ⟨h1, h2⟩ := mostF_q m h
  refine ⟨h1, ?_⟩
  rw [qv_const (n := 4 ^ m) (d := 1099511627776) (by decide) h2]
  unfold mostQ
  congr 1
  exact Rat.intCast_pow 4 m
theorem rsum_cap {c : Nat → Rat} {e : Rat} (h0 : ∀ k, 0 ≤ c k) (h9 : ∀ k, 9 ≤ k → c k = 0) (he : 0 ≤ e) : ∀ j, rsum (fun k => c k + e) j ≤ rsum c 9 + (j : Rat) * e
  | j => by
    have s : ∀ j, rsum (fun k => c k + e) j = rsum c j + (j : Rat) * e := by
      intro j
      induction j with
      | zero => show (0 : Rat) = 0 + ((0 : Nat) : Rat) * e; rw [show ((0 : Nat) : Rat) = 0 from rfl]; grind
      | succ j ih =>
        have ej : (((j + 1 : Nat)) : Rat) = (j : Rat) + 1 := by exact_mod_cast rfl
        show rsum (fun k => c k + e) j + (c j + e) = rsum c j + c j + ((j + 1 : Nat) : Rat) * e
        rw [ih, ej]; grind
    have up : ∀ a b, rsum c a ≤ rsum c (a + b) := by
      intro a b
      induction b with
      | zero => exact Rat.le_refl
      | succ b ih =>
        have := h0 (a + b)
        show rsum c a ≤ rsum c (a + b) + c (a + b)
        grind
    have tl : ∀ b, rsum c (9 + b) = rsum c 9 := by
      intro b
      induction b with
      | zero => rfl
      | succ b ih =>
        show rsum c (9 + b) + c (9 + b) = rsum c 9
        rw [ih, h9 _ (by omega)]; grind
    rw [s j]
    have : rsum c j ≤ rsum c 9 := by
      by_cases h : j ≤ 9
      · have := up j (9 - j)
        rwa [show j + (9 - j) = 9 by omega] at this
      · have := tl (j - 9)
        rw [show 9 + (j - 9) = j by omega] at this
        rw [this]; exact Rat.le_refl
    grind
theorem rsum_cap64 {c : Nat → Rat} (h0 : ∀ k, 0 ≤ c k) (h9 : ∀ k, 9 ≤ k → c k = 0) {j : Nat} (hj : j ≤ 64) : rsum (fun k => c k + 10 * tau) j ≤ rsum c 9 + 640 * tau := by
  have t3 : 0 ≤ tau := by decide +kernel
  have k := rsum_cap (e := 10 * tau) h0 h9 (by grind) j
  have hj1 : (j : Rat) ≤ 64 := by exact_mod_cast hj
  have := Rat.mul_le_mul_of_nonneg_right hj1 (show 0 ≤ 10 * tau by grind)
  grind
theorem csum_parts (f g : Nat → Nat) : ∀ j, csum (fun k => ⟨qv (f k), qv (g k)⟩) j = ⟨rsum (fun k => qv (f k)) j, rsum (fun k => qv (g k)) j⟩
  | 0 => rfl
  | j + 1 => by
    show csum (fun k => ⟨qv (f k), qv (g k)⟩) j + ⟨qv (f j), qv (g j)⟩ = _
    rw [csum_parts f g j]; rfl
theorem le1024 {d : Nat} (cd : Canon d) (h : fle (fabs d) 4652218415073722368 = true) : isFin d = true ∧ Bd (qv d) 1024 := by
  have fd : isFin d = true := by
    rcases cd.three with h1 | ⟨s, rfl⟩ | rfl
    · exact h1
    · cases s <;> exact absurd h (by decide +kernel)
    · exact absurd h (by decide +kernel)
  refine ⟨fd, ?_⟩
  rw [fabs_rg fd] at h
  have k : qv (rg d) ≤ qv 4652218415073722368 := by
    rw [fle_fin (fin_rg fd) (by decide)] at h
    exact fx_le_qv (of_decide_eq_true h)
  have e : qv 4652218415073722368 = 1024 := (qv_const (n := 1024) (d := 1) (by decide) (by decide +kernel)).trans (by decide +kernel)
  rw [e, rabs_rg fd] at k
  exact (bd_rabs (qv d)).mono k
theorem stp_q {d s : Nat} (fd : isFin d = true) (hd : Bd (qv d) 1024) (cs : Canon s) (fs : isFin s = true) : Canon (cStep_0 d s) ∧ isFin (cStep_0 d s) = true ∧ Bd (qv (cStep_0 d s)) 1025 := by
  obtain ⟨_, h2, _⟩ := turn_near cs fs
  have hb : Bd (qv (wTurn_1 s)) (1 + 9 * eta) := (tz_nb cs fs).im
  obtain ⟨f1, f2⟩ := mul_q fd h2 (hd.mul hb) (by decide +kernel)
  refine ⟨Canon.fmul _ _, f1, ((f2.add (hd.mul hb)).of_eq (by show qv (fmul d (wTurn_1 s)) - qv d * qv (wTurn_1 s) + qv d * qv (wTurn_1 s) = qv (fmul d (wTurn_1 s)); grind)).mono (by decide +kernel)⟩
/-- One term of the sum: an element by a weight. -/
theorem deaf_term {W : Nat → Nat × Nat} {m k : Nat} (ok : POk W m k) (hn : 0 ≤ pN m k ∧ pN m k ≤ 10000) {u v : Nat} (fu : isFin u = true) (fv : isFin v = true) (hs : Nb ⟨qv u, qv v⟩ gW) :
    isFin (nMul_0 u v (conjC W m (m + 1) k).1 (nCj_0 (conjC W m (m + 1) k).1 (conjC W m (m + 1) k).2)) = true ∧ isFin (nMul_1 u v (conjC W m (m + 1) k).1 (nCj_0 (conjC W m (m + 1) k).1 (conjC W m (m + 1) k).2)) = true ∧
    Nd ⟨qv (nMul_0 u v (conjC W m (m + 1) k).1 (nCj_0 (conjC W m (m + 1) k).1 (conjC W m (m + 1) k).2)), qv (nMul_1 u v (conjC W m (m + 1) k).1 (nCj_0 (conjC W m (m + 1) k).1 (conjC W m (m + 1) k).2))⟩ (⟨qv u, qv v⟩ * pz (pc W m k)) (eM m k + 10 * tau) := by
  have hc : isFin (conjC W m (m + 1) k).1 = true ∧ isFin (nCj_0 (conjC W m (m + 1) k).1 (conjC W m (m + 1) k).2) = true ∧ (⟨qv (conjC W m (m + 1) k).1, qv (nCj_0 (conjC W m (m + 1) k).1 (conjC W m (m + 1) k).2)⟩ : Cq) = pz (pc W m k) := by
    unfold conjC nCj_0
    by_cases h : k < m + 1
    · rw [if_pos h]
      obtain ⟨n1, n2, n3⟩ := qv_neg ok.c2 ok.f2
      obtain ⟨m1, m2, m3⟩ := qv_neg n3 n1
      refine ⟨ok.f1, m1, ?_⟩
      show (⟨qv (pc W m k).1, qv (aneg false (aneg false (pc W m k).2))⟩ : Cq) = ⟨_, _⟩
      rw [m2, n2]
      exact Cq.ext rfl (by show - -qv (pc W m k).2 = qv (pc W m k).2; grind)
    · rw [if_neg h]
      obtain ⟨n1, n2, n3⟩ := qv_neg ok.c2 ok.f2
      have z : pc W m k = (0, 0) := pc_hi W m k (by omega)
      refine ⟨ok.f1, n1, ?_⟩
      show (⟨qv (pc W m k).1, qv (aneg false (pc W m k).2)⟩ : Cq) = ⟨_, _⟩
      rw [n2, z]
      exact Cq.ext rfl (by show -qv 0 = qv 0; rw [zero_q]; decide +kernel)
  obtain ⟨c1, c2, c3⟩ := hc
  have hg : gW * pN m k ≤ 20000 := by
    have h1 : gW ≤ 2 := by decide +kernel
    have h2 := Rat.mul_le_mul_of_nonneg_right h1 hn.1
    have := hn.2
    grind
  have hw : Nb ⟨qv (conjC W m (m + 1) k).1, qv (nCj_0 (conjC W m (m + 1) k).1 (conjC W m (m + 1) k).2)⟩ (pN m k) := by rw [c3]; exact ok.nb
  obtain ⟨r1, r2, r3⟩ := mulc fu fv c1 c2 hs hw hg
  rw [c3] at r3
  exact ⟨r1, r2, r3⟩
/-- What is formed: its two floats. -/
def dfR (W : Nat → Nat × Nat) (m q k : Nat) : Nat := nMul_0 (wTurn_0 (kx q k)) (wTurn_1 (kx q k)) (conjC W m (m + 1) k).1 (nCj_0 (conjC W m (m + 1) k).1 (conjC W m (m + 1) k).2)
def dfI (W : Nat → Nat × Nat) (m q k : Nat) : Nat := nMul_1 (wTurn_0 (kx q k)) (wTurn_1 (kx q k)) (conjC W m (m + 1) k).1 (nCj_0 (conjC W m (m + 1) k).1 (conjC W m (m + 1) k).2)
theorem deaf_law {d : Nat} {x : Nat → Nat} {m n t : Nat} (cd : Canon d) (hd : fle (fabs d) 4652218415073722368 = true) (hx : ∀ i, i < m → Canon (x i) ∧ isFin (x i) = true) (m0 : 0 < m) (m8 : m ≤ 8) (ht : t < m) (hmn : m < n) (hn : n ≤ 64) :
    fle (bAbs_0 (sumC (dfR (nW d x) m (cStep_0 d (x t))) n) (sumC (dfI (nW d x) m (cStep_0 d (x t))) n)) (mostF m) = true := by
  obtain ⟨fd, bd⟩ := le1024 cd hd
  obtain ⟨cq, fq, bq⟩ := stp_q fd bd (hx t ht).1 (hx t ht).2
  have hW : ∀ j, j < m → WOk (nW d x) j := by
    intro j hj
    obtain ⟨c, f, _⟩ := stp_q fd bd (hx j hj).1 (hx j hj).2
    obtain ⟨g1, g2, _⟩ := turn_near c f
    exact ⟨g1, g2, tz_nb c f⟩
  have ok := p_ok (nW d x) m m8 hW
  have hz : tz (cStep_0 d (x t)) = pz (nW d x t) := rfl
  generalize hq : cStep_0 d (x t) = q at *
  have hs : ∀ k, k ≤ 64 → isFin (wTurn_0 (kx q k)) = true ∧ isFin (wTurn_1 (kx q k)) = true ∧ Nb (tz (kx q k)) gW := by
    intro k hk
    obtain ⟨a1, a2, _⟩ := kx_q fq bq hk
    obtain ⟨g1, g2, _⟩ := turn_near a1 a2
    exact ⟨g1, g2, tz_nb a1 a2⟩
  have L := L_small (nW d x) (t := t) (fun k => tz (kx q k)) (tz q) hz (tz_nb cq fq) (fun k hk => (hs k (by omega)).2.2) (fun k hk => step_law cq fq bq (by omega)) m ht m8 hW
  obtain ⟨s1, s2, s3, s4, s5⟩ := all_small m (by omega) m0
  have tm : ∀ k, k < 64 → isFin (dfR (nW d x) m q k) = true ∧ isFin (dfI (nW d x) m q k) = true ∧ Nd ⟨qv (dfR (nW d x) m q k), qv (dfI (nW d x) m q k)⟩ (tz (kx q k) * pz (pc (nW d x) m k)) (eM m k + 10 * tau) := by
    intro k hk
    obtain ⟨g1, g2, g3⟩ := hs k (by omega)
    exact deaf_term (ok k) (pN_ok m8 k) g1 g2 g3
  have hg0 : 0 ≤ gW := by decide +kernel
  have t1 : 0 ≤ eta := by decide +kernel
  have e0 : ∀ k, 0 ≤ eM m k := fun k => by
    have := Rat.mul_nonneg (Rat.mul_nonneg hg0 (pN_ok m8 k).1) t1
    unfold eM; grind
  have c0 : ∀ k, 0 ≤ cM m k := fun k => by
    have h1 := Rat.mul_nonneg hg0 (pN_ok m8 k).1
    have := e0 k
    unfold cM; unfold eM at this; grind
  have e9 : ∀ k, 9 ≤ k → eM m k = 0 := fun k hk => by unfold eM; rw [pN_hi m k (by omega)]; grind
  have c9 : ∀ k, 9 ≤ k → cM m k = 0 := fun k hk => by unfold cM; rw [pN_hi m k (by omega)]; grind
  -- partial sums
  have part : ∀ j, j ≤ 64 → Nb (csum (fun k => ⟨qv (dfR (nW d x) m q k), qv (dfI (nW d x) m q k)⟩) j) (sM m) := by
    intro j hj
    refine Nb.mono (csum_nb (b := fun k => cM m k + 10 * tau) fun k hk => ?_) (rsum_cap64 c0 c9 hj)
    obtain ⟨_, _, h3⟩ := tm k (by omega)
    have h4 := h3.nb ((hs k (by omega)).2.2.mul (ok k).nb)
    refine h4.mono ?_
    unfold cM eM
    grind
  have pr : ∀ j, j ≤ 64 → Bd (rsum (fun k => qv (dfR (nW d x) m q k)) j) (sM m) ∧ Bd (rsum (fun k => qv (dfI (nW d x) m q k)) j) (sM m) := by
    intro j hj
    have := part j hj
    rw [csum_parts] at this
    exact ⟨this.re, this.im⟩
  have en : n - 1 + 1 = n := by omega
  obtain ⟨a1, a2⟩ := smA_err (f := dfR (nW d x) m q) s3 (k := n - 1) (by omega) (fun i hi => (tm i (by omega)).1) (fun i hi => (pr (i + 1) (by omega)).1)
  obtain ⟨b1, b2⟩ := smA_err (f := dfI (nW d x) m q) s3 (k := n - 1) (by omega) (fun i hi => (tm i (by omega)).2.1) (fun i hi => (pr (i + 1) (by omega)).2)
  rw [en] at a2 b2
  have es : ∀ f : Nat → Nat, sumC f n = smA f (n - 1) := by
    intro f
    unfold sumC
    rw [show Nat.beq n 0 = false from by cases n with | zero => omega | succ n => rfl]
    rfl
  rw [es, es]
  have S0 : 0 ≤ sM m := (part 0 (by omega)).1
  have k64 : (((n - 1 : Nat)) : Rat) ≤ 64 := by exact_mod_cast (show n - 1 ≤ 64 by omega)
  have tp : 0 ≤ tau := by decide +kernel
  have st0 : 0 ≤ 2 * sM m * eta + 2 * tau := by have := Rat.mul_nonneg S0 t1; grind
  have cap := Rat.mul_le_mul_of_nonneg_right k64 st0
  have y1 : Nd ⟨qv (smA (dfR (nW d x) m q) (n - 1)), qv (smA (dfI (nW d x) m q) (n - 1))⟩ (csum (fun k => ⟨qv (dfR (nW d x) m q k), qv (dfI (nW d x) m q k)⟩) n) (128 * (2 * sM m * eta + 2 * tau)) := by
    rw [csum_parts]
    exact (Nd.of (x := ⟨_, _⟩) (y := ⟨_, _⟩) a2 b2).mono (by grind)
  have y2 : Nd (csum (fun k => ⟨qv (dfR (nW d x) m q k), qv (dfI (nW d x) m q k)⟩) n) (csum (fun k => tz (kx q k) * pz (pc (nW d x) m k)) n) (rsum (eM m) 9 + 640 * tau) :=
    (csum_nd (b := fun k => eM m k + 10 * tau) fun k hk => (tm k (by omega)).2.2).mono (rsum_cap64 e0 e9 hn)
  have y3 : csum (fun k => tz (kx q k) * pz (pc (nW d x) m k)) n = Ls (nW d x) (fun k => tz (kx q k)) m := by
    have ez : ∀ i, m + 1 ≤ i → tz (kx q i) * pz (pc (nW d x) m i) = Cq.zero := by
      intro i hi
      rw [pc_hi _ m i (by omega), pz_zero]
      exact Cq.ext (by show (tz (kx q i)).re * 0 - (tz (kx q i)).im * 0 = 0; grind) (by show (tz (kx q i)).re * 0 + (tz (kx q i)).im * 0 = 0; grind)
    rw [csum_tail (m := m + 1) ez (by omega), ← csum_tail (m := m + 1) ez (n := 9) (by omega)]
    exact csum_congr fun i _ => Cq.mul_comm _ _
  rw [y3] at y2
  have Y := (y1.trans y2).nb L
  have hr : 128 * (2 * sM m * eta + 2 * tau) + (rsum (eM m) 9 + 640 * tau) + dB m ≤ mostQ m * (9 / 10) := by
    have : fE m = 128 * (2 * sM m * eta + 2 * tau) + (rsum (eM m) 9 + 640 * tau) := rfl
    rw [← this, Rat.add_comm]; exact s1
  obtain ⟨r1, r2⟩ := abs_le a1 b1 (Y.mono hr) (by grind)
  obtain ⟨v1, v2⟩ := mostF_v (show m < 9 by omega)
  rw [fle_fin r1 v1]
  refine decide_eq_true (qv_le_fx ?_)
  rw [v2]
  refine Rat.le_trans r2 ?_
  have x1 : eta ≤ 1 / 1000000 := by decide +kernel
  have x2 : mostQ m * (9 / 10) * (8 * eta) ≤ mostQ m * (9 / 10) * (8 * (1 / 1000000)) := Rat.mul_le_mul_of_nonneg_left (by grind) (by grind)
  have x3 : tau ≤ 1 / 1099511627776 * (1 / 1000000) := by decide +kernel
  have x4 := Rat.mul_le_mul_of_nonneg_right s5 (show (0 : Rat) ≤ 1 / 1000000 by decide +kernel)
  clear y1 y2 Y cap a2 b2 s1
  grind
end Go.Lk
end
