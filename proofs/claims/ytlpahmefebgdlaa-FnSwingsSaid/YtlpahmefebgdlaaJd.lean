/- Leans and phases: exponentials, slopes, the law's second half. No condition. -/
import Derived.Test.YtlpahmefebgdlaaJb
import Derived.Test.YtlpahmefebgdlaaSa
namespace Go.Proofs.Ytlpahmefebgdlaa.Fx
open Go Nr Ieee

theorem one32_has : HasS one32 1 := ⟨false, 2 ^ 23, -23, num_one32, by decide +kernel⟩
theorem m16_has : HasS m16 (-16) := ⟨true, 2 ^ 23, -19, ⟨3246391296, rfl, by decide⟩, by decide +kernel⟩
theorem p16_has : HasS p16 16 := ⟨false, 2 ^ 23, -19, ⟨1098907648, rfl, by decide⟩, by decide +kernel⟩
theorem m10_has : HasS m10 (-10) := ⟨true, 10 * 2 ^ 20, -20, ⟨3240099840, rfl, by decide⟩, by decide +kernel⟩
theorem p10_has : HasS p10 10 := ⟨false, 10 * 2 ^ 20, -20, ⟨1092616192, rfl, by decide⟩, by decide +kernel⟩
theorem lean_told {r p : F32} {g v : Rat} (hr : HasS r g) (g1 : 5 / 4 ≤ g) (hp : HasS p v) (v1 : -8 ≤ v) (v2 : v ≤ 8) (he : OpenOk (widen r)) :
    leOk r p = true ∧ ∃ a w f u, Has (lean (widen r) (widen p)) a ∧ -(5 + 1 / 1000) ≤ a ∧ a ≤ 5 + 1 / 1000 ∧ Has (gv (widen r) (lean (widen r) (widen p))) w ∧ w ≤ f ∧ f ≤ w + nano ∧
      f ≤ 7074237752028440 / 1125899906842624 * v + nano ∧ 7074237752028440 / 1125899906842624 * v ≤ f + nano ∧ HasS (leV r p) u ∧ u ≤ a + 1 / 2097152 ∧ a ≤ u + 1 / 2097152 := by
  have hok : leOk r p = true := by
    unfold leOk
    rw [hasS_fin hr, gtS_has hr one32_has, geS_has hp m16_has, leS_has hp p16_has, decide_eq_true (by grind), decide_eq_true (by grind), decide_eq_true (by grind)]; rfl
  refine ⟨hok, ?_⟩
  have k6 : (2 : Rat) ^ (6 : Int) = 64 := by decide +kernel
  have k3 : (2 : Rat) ^ (3 : Int) = 8 := by decide +kernel
  have kn : (2 : Rat) ^ ((6 : Int) - 53) ≤ nano := by decide +kernel
  have kn1 : nano ≤ 1 / 10 := by decide +kernel
  obtain ⟨m1, m2⟩ := mul_bd (a := 7074237752028440 / 1125899906842624) (A := 63 / 10) (b := v) (B := 8) (by decide +kernel) (by decide +kernel) v1 v2
  have kc : (63 / 10 : Rat) * 8 ≤ 51 := by decide +kernel
  obtain ⟨f, hf, f1, f2⟩ := mul_has full_has (widen_has hp) (E := 6) (by grind) (by grind) (by decide) (by decide)
  obtain ⟨a, w, ha, a1, a2, hw, w1, w2⟩ := lean_has he hf (by grind) (by grind)
  obtain ⟨-, u, hu, u1, u2, -⟩ := narrow_has2 ha (E := 3) (by grind) (by grind) (by decide) (by decide) (1 / 2097152) (by decide +kernel)
  have hl : leV r p = narrow (lean (widen r) (widen p)) := by unfold leV; rw [hok]; rfl
  rw [hl]
  exact ⟨a, w, f, u, ha, a1, a2, hw, w1, w2, by grind, by grind, hu, by grind, by grind⟩
theorem lean_again {r p : F32} {g v : Rat} (hr : HasS r g) (g1 : 5 / 4 ≤ g) (hp : HasS p v) (v1 : -8 ≤ v) (v2 : v ≤ 8) (he : OpenOk (widen r)) :
    plQ r (leV r p) = true ∧ plB r (leV r p) = true ∧ ∃ t, HasS (leAgain r p) t ∧ t ≤ v + 200 * mic ∧ v ≤ t + 200 * mic := by
  obtain ⟨hok, a, w, f, u, ha, a1, a2, hw, w1, w2, f1, f2, hu, u1, u2⟩ := lean_told hr g1 hp v1 v2 he
  have ku : (5 : Rat) + 1 / 1000 + 1 / 2097152 ≤ 501 / 100 := by decide +kernel
  have kz : (0 : Rat) ≤ 1 / 2097152 := by decide +kernel
  obtain ⟨x, y, hx, hy, x1, x2, x3, x4, x5, x6⟩ := gv_twoa he.two (x := widen (leV r p)) (x' := lean (widen r) (widen p)) ⟨u, a, widen_has hu, ha, by grind, by grind, by grind, by grind, by grind, by grind⟩
  have := has_inj hy hw
  subst this
  have kd : (14275 / 33554432 : Rat) + nano + nano ≤ 450 * mic := by decide +kernel
  have kn0 : 0 ≤ nano := by decide +kernel
  generalize (14275 / 33554432 : Rat) = D at *
  have hc0 : (7074237752028440 / 1125899906842624 : Rat) ≠ 0 := by decide +kernel
  have hc1 : (6 : Rat) ≤ 7074237752028440 / 1125899906842624 := by decide +kernel
  have hq : ∃ c, x = c * (7074237752028440 / 1125899906842624) ∧ c ≤ v + 100 * mic ∧ v ≤ c + 100 * mic := by
    have e : x = x / (7074237752028440 / 1125899906842624) * (7074237752028440 / 1125899906842624) := (Rat.div_mul_cancel hc0).symm
    refine ⟨_, e, ?_⟩
    generalize x / (7074237752028440 / 1125899906842624) = c at e
    generalize (7074237752028440 / 1125899906842624 : Rat) = L at *
    have km0 : 0 ≤ 100 * mic := by decide +kernel
    have h6 := Rat.mul_le_mul_of_nonneg_left hc1 km0
    have hL : 0 < L := by grind
    constructor
    · refine Rat.le_of_mul_le_mul_right (c := L) ?_ hL
      grind
    · refine Rat.le_of_mul_le_mul_right (c := L) ?_ hL
      grind
  obtain ⟨c, hc, c1, c2⟩ := hq
  have km1 : 100 * mic ≤ 1 := by decide +kernel
  have k4 : (2 : Rat) ^ (4 : Int) = 16 := by decide +kernel
  have kq : (2 : Rat) ^ ((4 : Int) - 51) ≤ mic := by decide +kernel
  have kq0 : 0 ≤ mic := by decide +kernel
  obtain ⟨q, hq, q1, q2⟩ := div_has hx full_has hc0 hc (E := 4) (by grind) (by grind) (by decide) (by decide)
  obtain ⟨hfit, t, ht, t1, t2, -⟩ := narrow_has2 hq (E := 4) (by grind) (by grind) (by decide) (by decide) (1 / 1048576) (by decide +kernel)
  have kt : (1 / 1048576 : Rat) ≤ mic := by decide +kernel
  have hP : plP r (leV r p) = gv (widen r) (widen (leV r p)) / full := rfl
  rw [← hP] at hfit ht
  have hpl : plOk r (leV r p) = true := by
    unfold plOk
    rw [idx2_eq, hasS_fin hr, hasS_fin hu, leS_has hr one32_has, ltS_has hu m10_has, gtS_has hu p10_has, decide_eq_false (by grind), decide_eq_false (by grind), decide_eq_false (by grind)]; rfl
  have hfin := told_fin (hasS_fin ht)
  refine ⟨by unfold plQ; rw [hpl, hfit]; rfl, by unfold plB; rw [hpl, hfin.2]; rfl, t, ?_, by grind, by grind⟩
  unfold leAgain plV
  rw [hpl, hfin.1]
  exact ht
end Go.Proofs.Ytlpahmefebgdlaa.Fx
namespace Go.Proofs.Ytlpahmefebgdlaa.Fx
open Go Nr Ieee

theorem lin_le {A α E ε D : Rat} (hD : 0 ≤ D) (h1 : A ≤ α) (h2 : E ≤ ε) : A * D + E ≤ α * D + ε := by
  have := Rat.mul_le_mul_of_nonneg_right h1 hD
  grind
theorem Two.mulL {x y x' y' : F64} {B α ε B' α' ε' D : Rat} (h : Two x y B (α * D + ε)) (h' : Two x' y' B' (α' * D + ε')) (E : Int) (u : Rat) (hu : u = (2 : Rat) ^ (E - 53)) (hE : B * B' ≤ (2 : Rat) ^ E) (h3 : -1022 ≤ E) (h4 : E ≤ 1023) : Two (x * x') (y * y') (B * B' + u) ((B * α' + B' * α) * D + (B * ε' + B' * ε + 2 * u)) :=
  (Two.mul h h' E u hu hE h3 h4).le Rat.le_refl (by grind)
theorem Two.addL {x y x' y' : F64} {B α ε B' α' ε' D : Rat} (h : Two x y B (α * D + ε)) (h' : Two x' y' B' (α' * D + ε')) (E : Int) (u : Rat) (hu : u = (2 : Rat) ^ (E - 53)) (hE : B + B' ≤ (2 : Rat) ^ E) (h3 : -1022 ≤ E) (h4 : E ≤ 1023) : Two (x + x') (y + y') (B + B' + u) ((α + α') * D + (ε + ε' + 2 * u)) :=
  (Two.add h h' E u hu hE h3 h4).le Rat.le_refl (by grind)
theorem Two.divL {x y k : F64} {B α ε c Q α' ε' D : Rat} (h : Two x y B (α * D + ε)) (hk : Has k c) (hc : 0 < c) (hD : 0 ≤ D) (hQ : B ≤ Q * c) (hR : α ≤ α' * c) (hR' : ε ≤ ε' * c) (E : Int) (u : Rat) (hu : u = (2 : Rat) ^ (E - 51)) (hE : Q ≤ (2 : Rat) ^ E) (h3 : -1022 ≤ E) (h4 : E ≤ 1022) : Two (x / k) (y / k) (Q + u) (α' * D + (ε' + 2 * u)) := by
  have := lin_le hD hR hR'
  exact (Two.divc h hk hc (Q := Q) (R := α' * D + ε') hQ (by grind) E u hu hE h3 h4).le Rat.le_refl (by grind)
def hor4 (t : F64) : F64 := [12, 11, 10, 9, 8, 7, 6, 5, 4].foldl (expStep t) one
def hor3 (t : F64) : F64 := expStep t (hor4 t) 3
def hor2 (t : F64) : F64 := expStep t (hor3 t) 2
theorem expPoly_hor (t : F64) : expPoly t = expStep t (hor2 t) 1 := rfl
theorem hor_lin {x x' : F64} {D : Rat} (hD : 0 ≤ D) (hx : Two x x' (501 / 100 : Rat) ((1 : Rat) * D + (0 : Rat))) : Two (hor4 (x / k256)) (hor4 (x' / k256)) (2513 / 2500 : Rat) ((8259 / 8388608 : Rat) * D + (17045 / 36893488147419103232 : Rat)) ∧ Two (hor2 (x / k256)) (hor2 (x' / k256)) (5051 / 5000 : Rat) ((8303 / 4194304 : Rat) * D + (17709 / 36893488147419103232 : Rat)) := by
  have h1 := (Two.divL hx k256_has (by decide +kernel) hD (Q := (49 / 2500 : Rat)) (α' := (1 / 256 : Rat)) (ε' := (0 : Rat)) (by decide +kernel) (by decide +kernel) (by decide +kernel) (-5) (1 / 72057594037927936 : Rat) (by decide +kernel) (by decide +kernel) (by decide) (by decide)).le (B' := (197 / 10000 : Rat)) (d' := ((1 / 256 : Rat) * D + (1 / 36028797018963968 : Rat))) (by decide +kernel) (lin_le hD (by decide +kernel) (by decide +kernel))
  have o1 : Two one one 1 ((0 : Rat) * D + (0 : Rat)) := Two.le two_one Rat.le_refl (by grind)
  have h2 := (Two.mulL h1 o1 (-5) (1 / 288230376151711744 : Rat) (by decide +kernel) (by decide +kernel) (by decide) (by decide)).le (B' := (99 / 5000 : Rat)) (d' := ((1 / 256 : Rat) * D + (5 / 144115188075855872 : Rat))) (by decide +kernel) (lin_le hD (by decide +kernel) (by decide +kernel))
  have h3 := (Two.divL h2 kn12_has (by decide +kernel) hD (Q := (17 / 10000 : Rat)) (α' := (10923 / 33554432 : Rat)) (ε' := (27307 / 9444732965739290427392 : Rat)) (by decide +kernel) (by decide +kernel) (by decide +kernel) (-9) (1 / 1152921504606846976 : Rat) (by decide +kernel) (by decide +kernel) (by decide) (by decide)).le (B' := (9 / 5000 : Rat)) (d' := ((10923 / 33554432 : Rat) * D + (10923 / 2361183241434822606848 : Rat))) (by decide +kernel) (lin_le hD (by decide +kernel) (by decide +kernel))
  have h4 := (Two.addL o1 h3 (1) (1 / 4503599627370496 : Rat) (by decide +kernel) (by decide +kernel) (by decide) (by decide)).le (B' := (10019 / 10000 : Rat)) (d' := ((10923 / 33554432 : Rat) * D + (16555 / 36893488147419103232 : Rat))) (by decide +kernel) (lin_le hD (by decide +kernel) (by decide +kernel))
  have h5 := (Two.mulL h1 h4 (-5) (1 / 288230376151711744 : Rat) (by decide +kernel) (by decide +kernel) (by decide) (by decide)).le (B' := (99 / 5000 : Rat)) (d' := ((16443 / 4194304 : Rat) * D + (12865 / 295147905179352825856 : Rat))) (by decide +kernel) (lin_le hD (by decide +kernel) (by decide +kernel))
  have h6 := (Two.divL h5 kn11_has (by decide +kernel) hD (Q := (9 / 5000 : Rat)) (α' := (11959 / 33554432 : Rat)) (ε' := (18713 / 4722366482869645213696 : Rat)) (by decide +kernel) (by decide +kernel) (by decide +kernel) (-9) (1 / 1152921504606846976 : Rat) (by decide +kernel) (by decide +kernel) (by decide) (by decide)).le (B' := (19 / 10000 : Rat)) (d' := ((11959 / 33554432 : Rat) * D + (26905 / 4722366482869645213696 : Rat))) (by decide +kernel) (lin_le hD (by decide +kernel) (by decide +kernel))
  have h7 := (Two.addL o1 h6 (1) (1 / 4503599627370496 : Rat) (by decide +kernel) (by decide +kernel) (by decide) (by decide)).le (B' := (501 / 500 : Rat)) (d' := ((11959 / 33554432 : Rat) * D + (16595 / 36893488147419103232 : Rat))) (by decide +kernel) (lin_le hD (by decide +kernel) (by decide +kernel))
  have h8 := (Two.mulL h1 h7 (-5) (1 / 288230376151711744 : Rat) (by decide +kernel) (by decide +kernel) (by decide) (by decide)).le (B' := (99 / 5000 : Rat)) (d' := ((16447 / 4194304 : Rat) * D + (1609 / 36893488147419103232 : Rat))) (by decide +kernel) (lin_le hD (by decide +kernel) (by decide +kernel))
  have h9 := (Two.divL h8 kn10_has (by decide +kernel) hD (Q := (1 / 500 : Rat)) (α' := (6579 / 16777216 : Rat)) (ε' := (5149 / 1180591620717411303424 : Rat)) (by decide +kernel) (by decide +kernel) (by decide +kernel) (-8) (1 / 576460752303423488 : Rat) (by decide +kernel) (by decide +kernel) (by decide) (by decide)).le (B' := (21 / 10000 : Rat)) (d' := ((6579 / 16777216 : Rat) * D + (9245 / 1180591620717411303424 : Rat))) (by decide +kernel) (lin_le hD (by decide +kernel) (by decide +kernel))
  have h10 := (Two.addL o1 h9 (1) (1 / 4503599627370496 : Rat) (by decide +kernel) (by decide +kernel) (by decide) (by decide)).le (B' := (5011 / 5000 : Rat)) (d' := ((6579 / 16777216 : Rat) * D + (16673 / 36893488147419103232 : Rat))) (by decide +kernel) (lin_le hD (by decide +kernel) (by decide +kernel))
  have h11 := (Two.mulL h1 h10 (-5) (1 / 288230376151711744 : Rat) (by decide +kernel) (by decide +kernel) (by decide) (by decide)).le (B' := (99 / 5000 : Rat)) (d' := ((16453 / 4194304 : Rat) * D + (6443 / 147573952589676412928 : Rat))) (by decide +kernel) (lin_le hD (by decide +kernel) (by decide +kernel))
  have h12 := (Two.divL h11 kn9_has (by decide +kernel) hD (Q := (11 / 5000 : Rat)) (α' := (14625 / 33554432 : Rat)) (ε' := (22909 / 4722366482869645213696 : Rat)) (by decide +kernel) (by decide +kernel) (by decide +kernel) (-8) (1 / 576460752303423488 : Rat) (by decide +kernel) (by decide +kernel) (by decide) (by decide)).le (B' := (23 / 10000 : Rat)) (d' := ((14625 / 33554432 : Rat) * D + (19647 / 2361183241434822606848 : Rat))) (by decide +kernel) (lin_le hD (by decide +kernel) (by decide +kernel))
  have h13 := (Two.addL o1 h12 (1) (1 / 4503599627370496 : Rat) (by decide +kernel) (by decide +kernel) (by decide) (by decide)).le (B' := (1253 / 1250 : Rat)) (d' := ((14625 / 33554432 : Rat) * D + (16691 / 36893488147419103232 : Rat))) (by decide +kernel) (lin_le hD (by decide +kernel) (by decide +kernel))
  have h14 := (Two.mulL h1 h13 (-5) (1 / 288230376151711744 : Rat) (by decide +kernel) (by decide +kernel) (by decide) (by decide)).le (B' := (99 / 5000 : Rat)) (d' := ((4115 / 1048576 : Rat) * D + (25781 / 590295810358705651712 : Rat))) (by decide +kernel) (lin_le hD (by decide +kernel) (by decide +kernel))
  have h15 := (Two.divL h14 kn8_has (by decide +kernel) hD (Q := (1 / 400 : Rat)) (α' := (4115 / 8388608 : Rat)) (ε' := (25781 / 4722366482869645213696 : Rat)) (by decide +kernel) (by decide +kernel) (by decide +kernel) (-8) (1 / 576460752303423488 : Rat) (by decide +kernel) (by decide +kernel) (by decide) (by decide)).le (B' := (13 / 5000 : Rat)) (d' := ((4115 / 8388608 : Rat) * D + (21083 / 2361183241434822606848 : Rat))) (by decide +kernel) (lin_le hD (by decide +kernel) (by decide +kernel))
  have h16 := (Two.addL o1 h15 (1) (1 / 4503599627370496 : Rat) (by decide +kernel) (by decide +kernel) (by decide) (by decide)).le (B' := (10027 / 10000 : Rat)) (d' := ((4115 / 8388608 : Rat) * D + (8357 / 18446744073709551616 : Rat))) (by decide +kernel) (lin_le hD (by decide +kernel) (by decide +kernel))
  have h17 := (Two.mulL h1 h16 (-5) (1 / 288230376151711744 : Rat) (by decide +kernel) (by decide +kernel) (by decide) (by decide)).le (B' := (99 / 5000 : Rat)) (d' := ((16469 / 4194304 : Rat) * D + (25793 / 590295810358705651712 : Rat))) (by decide +kernel) (lin_le hD (by decide +kernel) (by decide +kernel))
  have h18 := (Two.divL h17 kn7_has (by decide +kernel) hD (Q := (29 / 10000 : Rat)) (α' := (9411 / 16777216 : Rat)) (ε' := (14739 / 2361183241434822606848 : Rat)) (by decide +kernel) (by decide +kernel) (by decide +kernel) (-8) (1 / 576460752303423488 : Rat) (by decide +kernel) (by decide +kernel) (by decide) (by decide)).le (B' := (3 / 1000 : Rat)) (d' := ((9411 / 16777216 : Rat) * D + (22931 / 2361183241434822606848 : Rat))) (by decide +kernel) (lin_le hD (by decide +kernel) (by decide +kernel))
  have h19 := (Two.addL o1 h18 (1) (1 / 4503599627370496 : Rat) (by decide +kernel) (by decide +kernel) (by decide) (by decide)).le (B' := (10031 / 10000 : Rat)) (d' := ((9411 / 16777216 : Rat) * D + (16743 / 36893488147419103232 : Rat))) (by decide +kernel) (lin_le hD (by decide +kernel) (by decide +kernel))
  have h20 := (Two.mulL h1 h19 (-5) (1 / 288230376151711744 : Rat) (by decide +kernel) (by decide +kernel) (by decide) (by decide)).le (B' := (99 / 5000 : Rat)) (d' := ((8241 / 2097152 : Rat) * D + (25809 / 590295810358705651712 : Rat))) (by decide +kernel) (lin_le hD (by decide +kernel) (by decide +kernel))
  have h21 := (Two.divL h20 kn6_has (by decide +kernel) hD (Q := (33 / 10000 : Rat)) (α' := (2747 / 4194304 : Rat)) (ε' := (8603 / 1180591620717411303424 : Rat)) (by decide +kernel) (by decide +kernel) (by decide +kernel) (-8) (1 / 576460752303423488 : Rat) (by decide +kernel) (by decide +kernel) (by decide) (by decide)).le (B' := (17 / 5000 : Rat)) (d' := ((2747 / 4194304 : Rat) * D + (12699 / 1180591620717411303424 : Rat))) (by decide +kernel) (lin_le hD (by decide +kernel) (by decide +kernel))
  have h22 := (Two.addL o1 h21 (1) (1 / 4503599627370496 : Rat) (by decide +kernel) (by decide +kernel) (by decide) (by decide)).le (B' := (2007 / 2000 : Rat)) (d' := ((2747 / 4194304 : Rat) * D + (16781 / 36893488147419103232 : Rat))) (by decide +kernel) (lin_le hD (by decide +kernel) (by decide +kernel))
  have h23 := (Two.mulL h1 h22 (-5) (1 / 288230376151711744 : Rat) (by decide +kernel) (by decide +kernel) (by decide) (by decide)).le (B' := (99 / 5000 : Rat)) (d' := ((1031 / 262144 : Rat) * D + (25827 / 590295810358705651712 : Rat))) (by decide +kernel) (lin_le hD (by decide +kernel) (by decide +kernel))
  have h24 := (Two.divL h23 kn5_has (by decide +kernel) hD (Q := (1 / 250 : Rat)) (α' := (13197 / 16777216 : Rat)) (ε' := (10331 / 1180591620717411303424 : Rat)) (by decide +kernel) (by decide +kernel) (by decide +kernel) (-7) (1 / 288230376151711744 : Rat) (by decide +kernel) (by decide +kernel) (by decide) (by decide)).le (B' := (41 / 10000 : Rat)) (d' := ((13197 / 16777216 : Rat) * D + (18523 / 1180591620717411303424 : Rat))) (by decide +kernel) (lin_le hD (by decide +kernel) (by decide +kernel))
  have h25 := (Two.addL o1 h24 (1) (1 / 4503599627370496 : Rat) (by decide +kernel) (by decide +kernel) (by decide) (by decide)).le (B' := (5021 / 5000 : Rat)) (d' := ((13197 / 16777216 : Rat) * D + (16963 / 36893488147419103232 : Rat))) (by decide +kernel) (lin_le hD (by decide +kernel) (by decide +kernel))
  have h26 := (Two.mulL h1 h25 (-5) (1 / 288230376151711744 : Rat) (by decide +kernel) (by decide +kernel) (by decide) (by decide)).le (B' := (99 / 5000 : Rat)) (d' := ((8259 / 2097152 : Rat) * D + (3237 / 73786976294838206464 : Rat))) (by decide +kernel) (lin_le hD (by decide +kernel) (by decide +kernel))
  have h27 := (Two.divL h26 kn4_has (by decide +kernel) hD (Q := (1 / 200 : Rat)) (α' := (8259 / 8388608 : Rat)) (ε' := (3237 / 295147905179352825856 : Rat)) (by decide +kernel) (by decide +kernel) (by decide +kernel) (-7) (1 / 288230376151711744 : Rat) (by decide +kernel) (by decide +kernel) (by decide) (by decide)).le (B' := (51 / 10000 : Rat)) (d' := ((8259 / 8388608 : Rat) * D + (5285 / 295147905179352825856 : Rat))) (by decide +kernel) (lin_le hD (by decide +kernel) (by decide +kernel))
  have h28 := (Two.addL o1 h27 (1) (1 / 4503599627370496 : Rat) (by decide +kernel) (by decide +kernel) (by decide) (by decide)).le (B' := (2513 / 2500 : Rat)) (d' := ((8259 / 8388608 : Rat) * D + (17045 / 36893488147419103232 : Rat))) (by decide +kernel) (lin_le hD (by decide +kernel) (by decide +kernel))
  have h29 := (Two.mulL h1 h28 (-5) (1 / 288230376151711744 : Rat) (by decide +kernel) (by decide +kernel) (by decide) (by decide)).le (B' := (199 / 10000 : Rat)) (d' := ((16551 / 4194304 : Rat) * D + (12969 / 295147905179352825856 : Rat))) (by decide +kernel) (lin_le hD (by decide +kernel) (by decide +kernel))
  have h30 := (Two.divL h29 kn3_has (by decide +kernel) hD (Q := (67 / 10000 : Rat)) (α' := (5517 / 4194304 : Rat)) (ε' := (4323 / 295147905179352825856 : Rat)) (by decide +kernel) (by decide +kernel) (by decide +kernel) (-7) (1 / 288230376151711744 : Rat) (by decide +kernel) (by decide +kernel) (by decide) (by decide)).le (B' := (17 / 2500 : Rat)) (d' := ((5517 / 4194304 : Rat) * D + (6371 / 295147905179352825856 : Rat))) (by decide +kernel) (lin_le hD (by decide +kernel) (by decide +kernel))
  have h31 := (Two.addL o1 h30 (1) (1 / 4503599627370496 : Rat) (by decide +kernel) (by decide +kernel) (by decide) (by decide)).le (B' := (10069 / 10000 : Rat)) (d' := ((5517 / 4194304 : Rat) * D + (17181 / 36893488147419103232 : Rat))) (by decide +kernel) (lin_le hD (by decide +kernel) (by decide +kernel))
  have h32 := (Two.mulL h1 h31 (-5) (1 / 288230376151711744 : Rat) (by decide +kernel) (by decide +kernel) (by decide) (by decide)).le (B' := (199 / 10000 : Rat)) (d' := ((8303 / 2097152 : Rat) * D + (26009 / 590295810358705651712 : Rat))) (by decide +kernel) (lin_le hD (by decide +kernel) (by decide +kernel))
  have h33 := (Two.divL h32 kn2_has (by decide +kernel) hD (Q := (1 / 100 : Rat)) (α' := (8303 / 4194304 : Rat)) (ε' := (26009 / 1180591620717411303424 : Rat)) (by decide +kernel) (by decide +kernel) (by decide +kernel) (-6) (1 / 144115188075855872 : Rat) (by decide +kernel) (by decide +kernel) (by decide) (by decide)).le (B' := (101 / 10000 : Rat)) (d' := ((8303 / 4194304 : Rat) * D + (21197 / 590295810358705651712 : Rat))) (by decide +kernel) (lin_le hD (by decide +kernel) (by decide +kernel))
  have h34 := (Two.addL o1 h33 (1) (1 / 4503599627370496 : Rat) (by decide +kernel) (by decide +kernel) (by decide) (by decide)).le (B' := (5051 / 5000 : Rat)) (d' := ((8303 / 4194304 : Rat) * D + (17709 / 36893488147419103232 : Rat))) (by decide +kernel) (lin_le hD (by decide +kernel) (by decide +kernel))
  exact ⟨h28, h34⟩
end Go.Proofs.Ytlpahmefebgdlaa.Fx
namespace Go.Proofs.Ytlpahmefebgdlaa.Fx
open Go Nr Ieee

def ep : Rat := 1 / 140737488355328
theorem step_val {t p : F64} {n : Int} {s h c : Rat} (ht : Has t s) (hp : Has p h) (hk : Has (ki n) c) (hc : 1 ≤ c) (s1 : -(1 / 40) ≤ s) (s2 : s ≤ 1 / 40) (h1 : -2 ≤ h) (h2 : h ≤ 2) : ∃ w, Has (expStep t p n) w ∧ w ≤ 1 + s * h / c + ep ∧ 1 + s * h / c ≤ w + ep := by
  have k0 : (2 : Rat) ^ (0 : Int) = 1 := by decide +kernel
  have k1 : (2 : Rat) ^ (1 : Int) = 2 := by decide +kernel
  have u0 : (2 : Rat) ^ ((0 : Int) - 53) ≤ ep / 4 := by decide +kernel
  have u1 : (2 : Rat) ^ ((0 : Int) - 51) ≤ ep / 4 := by decide +kernel
  have u2 : (2 : Rat) ^ ((1 : Int) - 53) ≤ ep / 4 := by decide +kernel
  have ke : ep ≤ 1 / 10 := by decide +kernel
  have ke0 : 0 ≤ ep := by decide +kernel
  obtain ⟨m1, m2⟩ := mul_bd s1 s2 h1 h2
  obtain ⟨m, hm, b1, b2⟩ := mul_has ht hp (E := 0) (by grind) (by grind) (by decide) (by decide)
  have hc0 : c ≠ 0 := by grind
  have e : ∀ a : Rat, a = a / c * c := fun a => (Rat.div_mul_cancel hc0).symm
  have near : ∀ a d : Rat, 0 ≤ d → a ≤ d → -d ≤ a → a / c ≤ d ∧ -d ≤ a / c := by
    intro a d hd ha hb
    have g := Rat.mul_le_mul_of_nonneg_left hc hd
    constructor
    · refine Rat.le_of_mul_le_mul_right (c := c) ?_ (by grind)
      rw [← e a]; grind
    · refine Rat.le_of_mul_le_mul_right (c := c) ?_ (by grind)
      rw [← e a]; grind
  obtain ⟨d1, d2⟩ := near (m - s * h) (ep / 4) (by grind) (by grind) (by grind)
  obtain ⟨d3, d4⟩ := near m (1 / 10) (by grind) (by grind) (by grind)
  have e1 : (m - s * h) / c = m / c - s * h / c := by grind
  rw [e1] at d1 d2
  obtain ⟨q, hq, q1, q2⟩ := div_has hm hk hc0 (e m) (E := 0) (by grind) (by grind) (by decide) (by decide)
  obtain ⟨w, hw, w1, w2⟩ := add_has one_has hq (E := 1) (by grind) (by grind) (by decide) (by decide)
  exact ⟨w, hw, by grind, by grind⟩
/-- The polynomial of a number, and what is in it. -/
structure Poly (x : F64) (a s h p : Rat) : Prop where
  arg : Has x a
  hs : Has (x / k256) s
  s1 : s ≤ a / 256 + ep
  s2 : a / 256 ≤ s + ep
  s3 : -(1 / 50) ≤ s
  s4 : s ≤ 1 / 50
  hh : Has (hor2 (x / k256)) h
  h1 : 98 / 100 ≤ h
  h2 : h ≤ 102 / 100
  h3 : ∃ r, 98 / 100 ≤ r ∧ r ≤ 102 / 100 ∧ h ≤ 1 + s * r / 2 + ep ∧ 1 + s * r / 2 ≤ h + ep
  hp : Has (expPoly (x / k256)) p
  p1 : p ≤ 1 + s * h + ep
  p2 : 1 + s * h ≤ p + ep
theorem poly_val {x : F64} {a : Rat} (hx : Has x a) (a1 : -(501 / 100) ≤ a) (a2 : a ≤ 501 / 100) : ∃ s h p, Poly x a s h p := by
  have u0 : (2 : Rat) ^ ((0 : Int) - 51) ≤ ep := by decide +kernel
  have k0 : (2 : Rat) ^ (0 : Int) = 1 := by decide +kernel
  have ke : ep ≤ 1 / 10000 := by decide +kernel
  have ke0 : 0 ≤ ep := by decide +kernel
  obtain ⟨s, hs, s1, s2⟩ := div_has hx k256_has (by decide) (c := a / 256) (by grind) (E := 0) (by grind) (by grind) (by decide) (by decide)
  obtain ⟨r4, r4', hr4, -, b1, b2, -⟩ := (hor_lin (D := 0) Rat.le_refl ((Two.of hx a1 a2).le Rat.le_refl (by grind))).1
  have kb : (2513 / 2500 : Rat) ≤ 2 := by decide +kernel
  obtain ⟨r, hr, r1, r2⟩ := step_val hs hr4 kn3_has (by decide +kernel) (by grind) (by grind) (by grind) (by grind)
  obtain ⟨m1, m2⟩ := mul_bd (a := s) (A := 1 / 50) (b := r4) (B := 2513 / 2500) (by grind) (by grind) b1 b2
  have kb2 : (1 / 50 : Rat) * (2513 / 2500) ≤ 3 / 100 := by decide +kernel
  have r3 : 98 / 100 ≤ r ∧ r ≤ 102 / 100 := by constructor <;> grind
  obtain ⟨h, hh, h1, h2⟩ := step_val hs hr kn2_has (by decide +kernel) (by grind) (by grind) (by grind) (by grind)
  obtain ⟨m3, m4⟩ := mul_bd (a := s) (A := 1 / 50) (b := r) (B := 102 / 100) (by grind) (by grind) (by grind) (by grind)
  have h3 : 98 / 100 ≤ h ∧ h ≤ 102 / 100 := by constructor <;> grind
  obtain ⟨p, hp, p1, p2⟩ := step_val hs hh kn1_has (by decide +kernel) (by grind) (by grind) (by grind) (by grind)
  exact ⟨s, h, p, ⟨hx, hs, by grind, by grind, by grind, by grind, hh, h3.1, h3.2, ⟨r, r3.1, r3.2, h1, h2⟩, hp, by grind, by grind⟩⟩
theorem sq_nonneg (x : Rat) : 0 ≤ x * x := by
  rcases Rat.le_total (a := 0) (b := x) with h | h
  · exact Rat.mul_nonneg h h
  · have := Rat.mul_nonneg (by grind : 0 ≤ -x) (by grind : 0 ≤ -x)
    grind
/-- A polynomial from below. -/
theorem Poly.low {x : F64} {a s h p : Rat} (H : Poly x a s h p) : 1 + a / 256 + 48 / 100 * (a / 256 * (a / 256)) ≤ p + 10 * ep ∧ 9 / 10 ≤ p ∧ p ≤ 11 / 10 ∧ -(1 / 50 + ep) ≤ a / 256 ∧ a / 256 ≤ 1 / 50 + ep := by
  obtain ⟨-, -, s1, s2, s3, s4, -, h1, h2, ⟨r, r1, r2, r3, r4⟩, -, p1, p2⟩ := H
  generalize a / 256 = t at *
  have ke : ep ≤ 1 / 10000 := by decide +kernel
  have ke0 : 0 ≤ ep := by decide +kernel
  have e1 : s * h = s + s * s * r / 2 + s * (h - (1 + s * r / 2)) := by grind
  obtain ⟨m1, m2⟩ := mul_bd s3 s4 (by grind : -ep ≤ h - (1 + s * r / 2)) (by grind)
  have m3 := Rat.mul_le_mul_of_nonneg_left r1 (sq_nonneg s)
  obtain ⟨m4, m5⟩ := mul_bd (a := s - t) (A := ep) (b := s + t) (B := 1 / 20) (by grind) (by grind) (by grind) (by grind)
  have e2 : (s - t) * (s + t) = s * s - t * t := by grind
  rw [e2] at m4 m5
  obtain ⟨m6, m7⟩ := mul_bd s3 s4 (by grind : -(102 / 100) ≤ h) h2
  have m8 := sq_nonneg t
  refine ⟨by grind, by grind, by grind, by grind, by grind⟩
theorem polys_mul {x y : F64} {a s h p s' h' p' : Rat} (H : Poly x a s h p) (H' : Poly y (-a) s' h' p') : 49999 / 50000 ≤ p * p' := by
  obtain ⟨l1, l2, l3, l4, l5⟩ := H.low
  obtain ⟨l1', l2', -⟩ := H'.low
  have e0 : -a / 256 = -(a / 256) := by grind
  rw [e0] at l1'
  generalize a / 256 = t at *
  have ke : ep ≤ 1 / 10000000 := by decide +kernel
  have ke0 : 0 ≤ ep := by decide +kernel
  have et : -t * -t = t * t := by grind
  rw [et] at l1'
  have m0 := sq_nonneg t
  obtain ⟨-, m1⟩ := mul_bd l4 l5 l4 l5
  have m2 : (1 / 50 + ep) * (1 / 50 + ep) ≤ 1 / 2400 := by decide +kernel
  have m3 := sq_nonneg (t * t)
  have A1 := Rat.mul_le_mul_of_nonneg_left (by grind : 1 + t + 48 / 100 * (t * t) - 10 * ep ≤ p) (by grind : 0 ≤ p')
  have A2 := Rat.mul_le_mul_of_nonneg_left (by grind : 1 + -t + 48 / 100 * (t * t) - 10 * ep ≤ p') (by grind : 0 ≤ 1 + t + 48 / 100 * (t * t) - 10 * ep)
  have e3 : (1 + t + 48 / 100 * (t * t) - 10 * ep) * (1 + -t + 48 / 100 * (t * t) - 10 * ep) = 1 - 4 / 100 * (t * t) + 2304 / 10000 * (t * t * (t * t)) - 10 * ep * (2 + 96 / 100 * (t * t)) + 100 * (ep * ep) := by grind
  rw [e3] at A2
  have m4 := sq_nonneg ep
  have m5 := Rat.mul_le_mul_of_nonneg_left (by grind : 2 + 96 / 100 * (t * t) ≤ 3) (by grind : 0 ≤ 10 * ep)
  grind
/-- Of two numbers the greater one has the greater polynomial. -/
theorem polys_sub {x y : F64} {a b s h p s' h' p' : Rat} (H : Poly x a s h p) (H' : Poly y b s' h' p') (hD : 1 / 4096 ≤ b - a) (a1 : -(501 / 100) ≤ a) (b1 : b ≤ 501 / 100) : 96 / 100 * ((b - a) / 256) ≤ p' - p := by
  obtain ⟨hx, -, s1, s2, s3, s4, hh, h1, h2, -, -, p1, p2⟩ := H
  obtain ⟨hy, -, s1', s2', s3', s4', hh', h1', h2', -, -, p1', p2'⟩ := H'
  obtain ⟨u, v, hu, hv, -, -, -, -, d1, d2⟩ := (hor_lin (D := b - a) (by grind) (x := x) (x' := y) ⟨a, b, hx, hy, by grind, by grind, by grind, by grind, by grind, by grind⟩).2
  have := has_inj hu hh
  subst this
  have := has_inj hv hh'
  subst this
  have ke : ep ≤ 1 / 10000000000 := by decide +kernel
  have ke0 : 0 ≤ ep := by decide +kernel
  have kd : (17709 / 36893488147419103232 : Rat) ≤ ep := by decide +kernel
  have kc : (8303 / 4194304 : Rat) ≤ 51 / 100 / 256 := by decide +kernel
  have kD := Rat.mul_le_mul_of_nonneg_right kc (by grind : 0 ≤ b - a)
  generalize (17709 / 36893488147419103232 : Rat) = E at *
  generalize (8303 / 4194304 : Rat) * (b - a) = G at *
  have e1 : s' * v - s * u = (s' - s) * v + s * (v - u) := by grind
  have q1 : v - u ≤ 51 / 100 / 256 * (b - a) + ep := by grind
  have q2 : -(51 / 100 / 256 * (b - a) + ep) ≤ v - u := by grind
  obtain ⟨m1, m2⟩ := mul_bd s3 s4 q2 q1
  have m3 := Rat.mul_le_mul_of_nonneg_left h1' (by grind : 0 ≤ s' - s)
  grind
end Go.Proofs.Ytlpahmefebgdlaa.Fx
namespace Go.Proofs.Ytlpahmefebgdlaa.Fx
open Go Nr Ieee

/-- Squared again and again. -/
def sqn : Nat → Rat → Rat
  | 0, x => x
  | n + 1, x => sqn n (x * x)
def fbn : Nat → Rat → Rat
  | 0, _ => 1
  | n + 1, u => 4 * u * fbn n (u * u)
theorem fbn_nonneg : ∀ (n : Nat) (u : Rat), 0 ≤ u → 0 ≤ fbn n u
  | 0, _, _ => by show (0 : Rat) ≤ 1; decide +kernel
  | n + 1, u, h => by
    simp only [fbn]
    exact Rat.mul_nonneg (by grind) (fbn_nonneg n _ (Rat.mul_nonneg h h))
theorem am_gm {m n u : Rat} (hm : 0 ≤ m) (hn : 0 ≤ n) (h : u * u ≤ m * n) : 2 * u ≤ m + n := by
  by_cases g : 2 * u ≤ m + n
  · exact g
  · exfalso
    have h1 := sq_nonneg (m - n)
    have h2 : 0 < 2 * u - (m + n) := by grind
    have h3 : 0 < 2 * u + (m + n) := by grind
    have h4 := Rat.mul_pos h2 h3
    grind
theorem sqn_diff : ∀ (n : Nat) (p q p' q' u : Rat), 0 ≤ u → 0 ≤ p → p ≤ q → 0 ≤ q' → q' ≤ p' → u ≤ p * p' → u ≤ q * q' →
    0 ≤ sqn n q - sqn n p ∧ 0 ≤ sqn n p' - sqn n q' ∧ fbn n u * ((q - p) * (p' - q')) ≤ (sqn n q - sqn n p) * (sqn n p' - sqn n q')
  | 0, p, q, p', q', u, hu, hp, hq, hq', hp', h1, h2 => by
    simp only [sqn, fbn]
    exact ⟨by grind, by grind, by grind⟩
  | n + 1, p, q, p', q', u, hu, hp, hq, hq', hp', h1, h2 => by
    simp only [sqn, fbn]
    have sq : ∀ {a b : Rat}, 0 ≤ a → a ≤ b → a * a ≤ b * b := by
      intro a b ha hb
      have := Rat.mul_nonneg (by grind : 0 ≤ b - a) (by grind : 0 ≤ b + a)
      grind
    have s1 := sq hu h1
    have s2 := sq hu h2
    obtain ⟨i1, i2, i3⟩ := sqn_diff n (p * p) (q * q) (p' * p') (q' * q') (u * u) (Rat.mul_nonneg hu hu) (Rat.mul_nonneg hp hp) (sq hp hq) (Rat.mul_nonneg hq' hq') (sq hq' hp') (by grind) (by grind)
    refine ⟨i1, i2, Rat.le_trans ?_ i3⟩
    have hf := fbn_nonneg n (u * u) (Rat.mul_nonneg hu hu)
    have k1 : 0 ≤ (q - p) * (p' - q') := Rat.mul_nonneg (by grind) (by grind)
    have g : u * u ≤ (q * p') * (p * q') := by
      have a1 := Rat.mul_le_mul_of_nonneg_left h1 (by grind : 0 ≤ q * q')
      have a2 := Rat.mul_le_mul_of_nonneg_left h2 hu
      grind
    have k2 := am_gm (Rat.mul_nonneg (by grind) (by grind)) (Rat.mul_nonneg hp hq') g
    have k3 : 4 * u ≤ (q + p) * (p' + q') := by grind
    have k4 := Rat.mul_le_mul_of_nonneg_left k3 k1
    have k5 := Rat.mul_le_mul_of_nonneg_left k4 hf
    have e1 : fbn n (u * u) * ((q - p) * (p' - q') * ((q + p) * (p' + q'))) = fbn n (u * u) * ((q * q - p * p) * (p' * p' - q' * q')) := by grind
    rw [e1] at k5
    grind
/-- A float near to a number. -/
def Ap (x : F64) (a B d : Rat) : Prop := ∃ w, Has x w ∧ -B ≤ w ∧ w ≤ B ∧ -B ≤ a ∧ a ≤ B ∧ w - a ≤ d ∧ a - w ≤ d
theorem Ap.le {x : F64} {a B d B' d' : Rat} (h : Ap x a B d) (h1 : B ≤ B') (h2 : d ≤ d') : Ap x a B' d' := by
  obtain ⟨w, hw, q1, q2, q3, q4, q5, q6⟩ := h
  exact ⟨w, hw, by grind, by grind, by grind, by grind, by grind, by grind⟩
theorem Ap.sq {x : F64} {a B d : Rat} (h : Ap x a B d) (E : Int) (u : Rat) (hu : u = (2 : Rat) ^ (E - 53)) (hE : B * B ≤ (2 : Rat) ^ E) (h3 : -1022 ≤ E) (h4 : E ≤ 1023) : Ap (sq x) (a * a) (B * B + u) (2 * B * d + u) := by
  obtain ⟨w, hw, q1, q2, q3, q4, q5, q6⟩ := h
  obtain ⟨m1, m2⟩ := mul_bd q1 q2 q1 q2
  obtain ⟨m3, m4⟩ := mul_bd q3 q4 q3 q4
  obtain ⟨v, hv, v1, v2⟩ := mul_has hw hw (E := E) (by grind) (by grind) h3 h4
  rw [← hu] at v1 v2
  obtain ⟨n1, n2⟩ := mul_bd (by grind : -(2 * B) ≤ w + a) (by grind) (by grind : -d ≤ w - a) q5
  exact ⟨v, hv, by grind, by grind, by grind, by grind, by grind, by grind⟩
theorem sq8_ap {x : F64} {p : Rat} (h0 : Ap x p (1021 / 1000 : Rat) 0) : Ap (sq8 x) (sqn 8 p) (519041 / 2500 : Rat) (5921 / 562949953421312 : Rat) := by
  have h1 := (Ap.sq h0 (1) (1 / 4503599627370496 : Rat) (by decide +kernel) (by decide +kernel) (by decide) (by decide)).le (B' := (417 / 400 : Rat)) (d' := (1 / 4503599627370496 : Rat)) (by decide +kernel) (by decide +kernel)
  have h2 := (Ap.sq h1 (1) (1 / 4503599627370496 : Rat) (by decide +kernel) (by decide +kernel) (by decide) (by decide)).le (B' := (10869 / 10000 : Rat)) (d' := (25273 / 36893488147419103232 : Rat)) (by decide +kernel) (by decide +kernel)
  have h3 := (Ap.sq h2 (1) (1 / 4503599627370496 : Rat) (by decide +kernel) (by decide +kernel) (by decide) (by decide)).le (B' := (5907 / 5000 : Rat)) (d' := (15783 / 9223372036854775808 : Rat)) (by decide +kernel) (by decide +kernel)
  have h4 := (Ap.sq h3 (1) (1 / 4503599627370496 : Rat) (by decide +kernel) (by decide +kernel) (by decide) (by decide)).le (B' := (6979 / 5000 : Rat)) (d' := (19671 / 4611686018427387904 : Rat)) (by decide +kernel) (by decide +kernel)
  have h5 := (Ap.sq h4 (1) (1 / 4503599627370496 : Rat) (by decide +kernel) (by decide +kernel) (by decide) (by decide)).le (B' := (19483 / 10000 : Rat)) (d' := (27969 / 2305843009213693952 : Rat)) (by decide +kernel) (by decide +kernel)
  have h6 := (Ap.sq h5 (2) (1 / 2251799813685248 : Rat) (by decide +kernel) (by decide +kernel) (by decide) (by decide)).le (B' := (37959 / 10000 : Rat)) (d' := (27503 / 576460752303423488 : Rat)) (by decide +kernel) (by decide +kernel)
  have h7 := (Ap.sq h6 (4) (1 / 562949953421312 : Rat) (by decide +kernel) (by decide +kernel) (by decide) (by decide)).le (B' := (144089 / 10000 : Rat)) (d' := (6557 / 18014398509481984 : Rat)) (by decide +kernel) (by decide +kernel)
  have h8 := (Ap.sq h7 (8) (1 / 35184372088832 : Rat) (by decide +kernel) (by decide +kernel) (by decide) (by decide)).le (B' := (519041 / 2500 : Rat)) (d' := (5921 / 562949953421312 : Rat)) (by decide +kernel) (by decide +kernel)
  exact h8
/-- The exponential of a number, and its polynomial squared. -/
theorem exp_val {x : F64} {a s h p : Rat} (H : Poly x a s h p) (a1 : -(501 / 100) ≤ a) (a2 : a ≤ 501 / 100) : ∃ w, Has (exponential x) w ∧ -210 ≤ w ∧ w ≤ 210 ∧ w ≤ sqn 8 p + (1 / 17179869184 : Rat) ∧ sqn 8 p ≤ w + (1 / 17179869184 : Rat) := by
  obtain ⟨l1, l2, l3, -⟩ := H.low
  obtain ⟨hx, -, -, -, s3, s4, -, h1, h2, -, hp, p1, p2⟩ := H
  have ke : ep ≤ 1 / 100000 := by decide +kernel
  obtain ⟨-, m⟩ := mul_bd s3 s4 (by grind : -(102 / 100) ≤ h) h2
  obtain ⟨w, hw, q1, q2, q3, q4, q5, q6⟩ := sq8_ap (x := expPoly (x / k256)) (p := p) ⟨p, hp, by grind, by grind, by grind, by grind, by grind, by grind⟩
  rw [exp_small hx (by grind) (by grind)]
  have kB : (519041 / 2500 : Rat) ≤ 210 := by decide +kernel
  have kd : (5921 / 562949953421312 : Rat) ≤ (1 / 17179869184 : Rat) := by decide +kernel
  exact ⟨w, hw, by grind, by grind, by grind, by grind⟩
/-- What a bisection of leans compares, by the polynomials. -/
theorem gv_form {e x : F64} {g a s h p s' h' p' : Rat} (he : Has e g) (g1 : 5 / 4 ≤ g) (g2 : g ≤ 21 / 4) (H : Poly x a s h p) (H' : Poly (-x) (-a) s' h' p') (a1 : -(501 / 100) ≤ a) (a2 : a ≤ 501 / 100) :
    ∃ w, Has (gv e x) w ∧ w ≤ g * ((sqn 8 p - sqn 8 p') / 2) - a + nano ∧ g * ((sqn 8 p - sqn 8 p') / 2) - a ≤ w + nano := by
  obtain ⟨u, hu, b1, b2, u1, u2⟩ := exp_val H a1 a2
  obtain ⟨v, hv, b3, b4, v1, v2⟩ := exp_val H' (by grind) (by grind)
  have k9 : (2 : Rat) ^ (9 : Int) = 512 := by decide +kernel
  have k8 : (2 : Rat) ^ (8 : Int) = 256 := by decide +kernel
  have k11 : (2 : Rat) ^ (11 : Int) = 2048 := by decide +kernel
  have c1 : (2 : Rat) ^ ((9 : Int) - 53) ≤ nano / 1000 := by decide +kernel
  have c2 : (2 : Rat) ^ ((8 : Int) - 51) ≤ nano / 1000 := by decide +kernel
  have c3 : (2 : Rat) ^ ((11 : Int) - 53) ≤ nano / 1000 := by decide +kernel
  have c4 : (1 / 17179869184 : Rat) ≤ nano / 10 := by decide +kernel
  have kn : nano ≤ 1 / 10 := by decide +kernel
  have kn0 : 0 ≤ nano := by decide +kernel
  generalize (1 / 17179869184 : Rat) = q at *
  obtain ⟨d, hd, d1, d2⟩ := sub_has hu hv (E := 9) (by grind) (by grind) (by decide) (by decide)
  obtain ⟨t, ht, t1, t2⟩ := div_has hd two_has (by decide) (c := d / 2) (by grind) (E := 8) (by grind) (by grind) (by decide) (by decide)
  have hT : -(212 : Rat) ≤ t ∧ t ≤ 212 := by constructor <;> grind
  obtain ⟨m1, m2⟩ := mul_bd (by grind : -(21 / 4) ≤ g) g2 hT.1 hT.2
  obtain ⟨m, hm, m3, m4⟩ := mul_has he ht (E := 11) (by grind) (by grind) (by decide) (by decide)
  obtain ⟨w, hw, w1, w2⟩ := sub_has hm H.arg (E := 11) (by grind) (by grind) (by decide) (by decide)
  obtain ⟨n1, n2⟩ := mul_bd (by grind : -(21 / 4) ≤ g) g2 (by grind : -(nano / 8) ≤ t - (sqn 8 p - sqn 8 p') / 2) (by grind)
  refine ⟨w, hw, ?_, ?_⟩ <;> grind
/-- The slope from below. -/
theorem gv_slope {e x y : F64} {g a b w v : Rat} (he : Has e g) (g1 : 5 / 4 ≤ g) (g2 : g ≤ 21 / 4) (hx : Has x a) (hy : Has y b) (a1 : -(501 / 100) ≤ a) (b1 : b ≤ 501 / 100) (hD : 1 / 4096 ≤ b - a) (hw : Has (gv e x) w) (hv : Has (gv e y) v) : w + 40 * mic ≤ v := by
  obtain ⟨s, h, p, P⟩ := poly_val hx a1 (by grind)
  obtain ⟨s', h', p', P'⟩ := poly_val hx.neg (by grind) (by grind)
  obtain ⟨r, k, q, Q⟩ := poly_val hy (by grind) b1
  obtain ⟨r', k', q', Q'⟩ := poly_val hy.neg (by grind) (by grind)
  obtain ⟨w', hw', w1, w2⟩ := gv_form he g1 g2 P P' a1 (by grind)
  obtain ⟨v', hv', v1, v2⟩ := gv_form he g1 g2 Q Q' (by grind) b1
  have := has_inj hw hw'
  subst this
  have := has_inj hv hv'
  subst this
  have d1 := polys_sub P Q hD a1 b1
  have d2 := polys_sub Q' P' (by grind) (by grind) (by grind)
  have e2 : (-a - -b) / 256 = (b - a) / 256 := by grind
  rw [e2] at d2
  have u1 := polys_mul P P'
  have u2 := polys_mul Q Q'
  have l1 := P.low
  have l2 := Q'.low
  obtain ⟨i1, i2, i3⟩ := sqn_diff 8 p q p' q' (49999 / 50000) (by decide +kernel) (by grind) (by grind) (by grind) (by grind) u1 u2
  have kf : 64880 ≤ fbn 8 (49999 / 50000) := by decide +kernel
  generalize fbn 8 (49999 / 50000) = f at *
  generalize sqn 8 p = A at *
  generalize sqn 8 q = B at *
  generalize sqn 8 p' = A' at *
  generalize sqn 8 q' = B' at *
  obtain ⟨D, eD⟩ : ∃ D, D = b - a := ⟨_, rfl⟩
  rw [← eD] at d1 d2 hD
  have m0 : 0 ≤ 96 / 100 * (D / 256) := by grind
  have m1 := Rat.mul_le_mul_of_nonneg_left d1 m0
  have m2 := Rat.mul_le_mul_of_nonneg_left d2 (by grind : 0 ≤ q - p)
  have m3 : 96 / 100 * (D / 256) * (96 / 100 * (D / 256)) ≤ (q - p) * (p' - q') := by grind
  have m4 := Rat.mul_le_mul_of_nonneg_left m3 (by grind : 0 ≤ f)
  have m5 := Rat.mul_le_mul_of_nonneg_right kf (Rat.mul_nonneg m0 m0)
  have m6 : (95 / 100 * D) * (95 / 100 * D) ≤ (B - A) * (A' - B') := by
    have := sq_nonneg D
    grind
  have m7 := am_gm i1 i2 m6
  have m8 := Rat.mul_le_mul_of_nonneg_right g1 (by grind : 0 ≤ ((B - A) + (A' - B')) / 2)
  have kn : nano ≤ mic / 100 := by decide +kernel
  have km : mic ≤ 1 / 1000000 := by decide +kernel
  have hh : g * ((B - B') / 2) - g * ((A - A') / 2) = g * (((B - A) + (A' - B')) / 2) := by grind
  grind
end Go.Proofs.Ytlpahmefebgdlaa.Fx
namespace Go.Proofs.Ytlpahmefebgdlaa.Fx
open Go Nr Ieee

theorem HasS.neg {x : F32} {a : Rat} (h : HasS x a) : HasS (-x) (-a) := by
  obtain ⟨s, m, e, ⟨r, rfl, hr⟩, rfl⟩ := h
  exact ⟨!s, m, e, ⟨_, neg_sx r, by rw [read_negS, hr]⟩, (val_not s m e).symm⟩
theorem neg_neg64 {x : F64} {a : Rat} (h : Has x a) : -(-x) = x := by
  obtain ⟨s, m, e, ⟨r, rfl, hr⟩, -⟩ := h
  rw [neg_bx, neg_bx, Nat.xor_assoc, Nat.xor_self, Nat.xor_zero]
theorem tn3_has : ∃ w, Has tn3 w ∧ 999 / 1000000 ≤ w ∧ w ≤ 1001 / 1000000 := ⟨_, ⟨false, 4611686018427388, -62, ⟨4562254508917369340, rfl, by decide⟩, rfl⟩, by decide +kernel, by decide +kernel⟩
theorem tn4_has : ∃ w, Has tn4 w ∧ 99 / 1000000 ≤ w := ⟨_, ⟨false, 7378697629483821, -66, ⟨4547007122018943789, rfl, by decide⟩, rfl⟩, by decide +kernel⟩
/-- A gap's worth. -/
theorem gap_has {x y : F64} {a b : Rat} (hx : Has x a) (hy : Has y b) (h1 : a - b ≤ 32) (h2 : b - a ≤ 32) : ∃ w, Has (gapB x y) w ∧ a - b ≤ w + nano ∧ b - a ≤ w + nano ∧ (w ≤ a - b + nano ∨ w ≤ b - a + nano) := by
  have k5 : (2 : Rat) ^ (5 : Int) = 32 := by decide +kernel
  have c : (2 : Rat) ^ ((5 : Int) - 53) ≤ nano := by decide +kernel
  have c0 : 0 ≤ nano := by decide +kernel
  unfold gapB
  rw [lt_has hx hy]
  by_cases h : a < b
  · rw [decide_eq_true h]
    obtain ⟨w, hw, w1, w2⟩ := sub_has hy hx (E := 5) (by grind) (by grind) (by decide) (by decide)
    exact ⟨w, hw, by grind, by grind, by grind⟩
  · rw [decide_eq_false h]
    obtain ⟨w, hw, w1, w2⟩ := sub_has hx hy (E := 5) (by grind) (by grind) (by decide) (by decide)
    exact ⟨w, hw, by grind, by grind, by grind⟩
/-- The leans of opposite phases are opposite, nearly. -/
theorem lean_other {r p : F32} {g v : Rat} (hr : HasS r g) (g1 : 5 / 4 ≤ g) (g2 : g ≤ 21 / 4) (hp : HasS p v) (v1 : -8 ≤ v) (v2 : v ≤ 8) (he : OpenOk (widen r)) :
    leOk r p = true ∧ leOk r (-p) = true ∧ ∃ u t, HasS (leV r p) u ∧ HasS (leV r (-p)) t ∧ u + t ≤ 500 * mic ∧ -(500 * mic) ≤ u + t ∧ -6 ≤ u ∧ u ≤ 6 := by
  obtain ⟨ok1, a, w, f, u, ha, a1, a2, hw, w1, w2, f1, f2, hu, u1, u2⟩ := lean_told hr g1 hp v1 v2 he
  obtain ⟨ok2, b, z, k, t, hb, b1, b2, hz, z1, z2, k1, k2, ht, t1, t2⟩ := lean_told hr g1 hp.neg (by grind) (by grind) he
  refine ⟨ok1, ok2, u, t, hu, ht, ?_⟩
  have hg := widen_has hr
  have eL : 7074237752028440 / 1125899906842624 * -v = -(7074237752028440 / 1125899906842624 * v) := by grind
  rw [eL] at k1 k2
  generalize 7074237752028440 / 1125899906842624 * v = L at *
  generalize lean (widen r) (widen p) = c at *
  generalize lean (widen r) (widen (-p)) = d at *
  obtain ⟨s, h, q, P⟩ := poly_val hb (by grind) (by grind)
  obtain ⟨s', h', q', P'⟩ := poly_val hb.neg (by grind) (by grind)
  have P2 : Poly (-(-d)) (-(-b)) s h q := by
    rw [neg_neg64 hb, show -(-b) = b by grind]; exact P
  obtain ⟨z', hz', m1, m2⟩ := gv_form hg g1 g2 P P' (by grind) (by grind)
  have := has_inj hz hz'
  subst this
  obtain ⟨y, hy, y1, y2⟩ := gv_form hg g1 g2 P' P2 (by grind) (by grind)
  have e : g * ((sqn 8 q' - sqn 8 q) / 2) = -(g * ((sqn 8 q - sqn 8 q') / 2)) := by grind
  rw [e] at y1 y2
  generalize g * ((sqn 8 q - sqn 8 q') / 2) = S at *
  have kn : nano ≤ mic / 100 := by decide +kernel
  have kn0 : 0 ≤ nano := by decide +kernel
  have km : (1 / 4096 : Rat) + 1 / 2097152 + 1 / 2097152 ≤ 500 * mic := by decide +kernel
  have k0 : (1 / 2097152 : Rat) ≤ 1 / 100 := by decide +kernel
  have q1 : a + b ≤ 1 / 4096 := by
    by_cases hc : 1 / 4096 ≤ a - -b
    · have := gv_slope hg g1 g2 hb.neg ha (by grind) (by grind) hc hy hw
      grind
    · grind
  have q2 : -(1 / 4096) ≤ a + b := by
    by_cases hc : 1 / 4096 ≤ -b - a
    · have := gv_slope hg g1 g2 ha hb.neg (by grind) (by grind) hc hw hy
      grind
    · grind
  refine ⟨by grind, by grind, by grind, by grind⟩
/-- The law's second half. -/
theorem leAll_yes {r p : F32} {g v : Rat} (hr : HasS r g) (g1 : 5 / 4 ≤ g) (g2 : g ≤ 21 / 4) (hp : HasS p v) (v1 : -8 ≤ v) (v2 : v ≤ 8) (he : OpenOk (widen r)) : leAll r p = wYes := by
  obtain ⟨ok1, ok2, u, t, hu, ht, s1, s2, u1, u2⟩ := lean_other hr g1 g2 hp v1 v2 he
  obtain ⟨q1, q2, k, hk, k1, k2⟩ := lean_again hr g1 hp v1 v2 he
  have km : mic ≤ 1 / 1000000 := by decide +kernel
  have km0 : 0 ≤ mic := by decide +kernel
  have kn : nano ≤ 1 / 1000000000 := by decide +kernel
  have kn0 : 0 ≤ nano := by decide +kernel
  obtain ⟨c, hc, c1, c2⟩ := tn3_has
  obtain ⟨w, hw, w1, w2, w3⟩ := gap_has (widen_has hk) (widen_has hp) (by grind) (by grind)
  obtain ⟨z, hz, z1, z2, z3⟩ := gap_has (widen_has hp) zero_has (by grind) (by grind)
  have k4 : (2 : Rat) ^ (4 : Int) = 16 := by decide +kernel
  have k0 : (2 : Rat) ^ (0 : Int) = 1 := by decide +kernel
  have e4 : (2 : Rat) ^ ((4 : Int) - 53) ≤ nano := by decide +kernel
  have e0 : (2 : Rat) ^ ((0 : Int) - 53) ≤ nano := by decide +kernel
  obtain ⟨o, ho, o1, o2⟩ := add_has one_has hz (E := 4) (by grind) (by grind) (by decide) (by decide)
  obtain ⟨m1, m2⟩ := mul_bd (a := c) (A := 1001 / 1000000) (b := o) (B := 16) (by grind) (by grind) (by grind) (by grind)
  have m3 := Rat.mul_le_mul_of_nonneg_left (by grind : 99 / 100 ≤ o) (by grind : 0 ≤ c)
  have kc : (1001 / 1000000 : Rat) * 16 ≤ 1 := by decide +kernel
  obtain ⟨y, hy, y1, y2⟩ := mul_has hc ho (E := 0) (by grind) (by grind) (by decide) (by decide)
  obtain ⟨x, hx, x1, x2, x3⟩ := gap_has (widen_has ht) (widen_has hu).neg (by grind) (by grind)
  unfold leAll
  rw [q1, ok1, q2, ok2, lt_has hw hy, lt_has hx hc, decide_eq_true (by grind), decide_eq_true (by grind)]
  rfl
end Go.Proofs.Ytlpahmefebgdlaa.Fx
