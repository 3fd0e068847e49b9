/- Texts put together: Kh, Tn, Ki, Kg, Kj. No condition. -/
import Derived.Test.YtlpahmefebgdlaaPj
import Derived.Test.YtlpahmefebgdlaaPm
import Derived.Test.YtlpahmefebgdlaaPk
/- The law FnSections: shares, zones, the flights' boxes. No condition. -/
namespace Go.Proofs.Ytlpahmefebgdlaa.Fx
open Go

/-- The flights' zone. -/
theorem zone_s {m k1 k2 : Rat} (m1 : 1 / 32 ≤ m) (m2 : m ≤ 1 / 2) (h1 : k1 * (m + 1969 / 1000) = 1) (h2 : k2 * (m + 969 / 1000) = 1) (hc : (1 - m) * (k1 * k1 * k1) + m * (k2 * k2 * k2) ≤ 22 / 100) (hg : 1001 / 1000 * ((1 - m) * (k1 * k1) + m * (k2 * k2)) ≤ 33 / 100) :
    Zone m (197 / 100) 5 (-3 / 10) (3 / 10) 0 (33 / 100) (22 / 100) k1 k2 := by
  have one_sq : ∀ a b : Rat, 1 ≤ a → 1 ≤ a * a + b * b := by
    intro a b h
    have := Rat.mul_le_mul_of_nonneg_left h (show 0 ≤ a by grind)
    have := sq_nonneg b
    grind
  have key : ∀ d z R q A k : Rat, 1 / 2 ≤ A → A + 1 / 2000 ≤ d → d * d + z * z ≤ R * R + 31 / 1048576 → 999 / 1000 ≤ R → q * R = 1 → k * A = 1 → q ≤ k ∧ 0 ≤ d * (q * q * q) ∧ d * (q * q * q) ≤ 1001 / 1000 * (k * k) := by
    intro d z R q A k a1 a2 r p i j
    have q0 := inv_nonneg i p
    have hAR : A ≤ R := by
      refine sq_le_sq (by grind) ?_
      have zz := sq_nonneg z
      have t1 : (A + 1 / 2000) * (A + 1 / 2000) ≤ d * d := by
        have t2 := Rat.mul_le_mul_of_nonneg_left a2 (show 0 ≤ A + 1 / 2000 by grind)
        have t3 := Rat.mul_le_mul_of_nonneg_right a2 (show 0 ≤ d by grind)
        grind
      have t4 : (A + 1 / 2000) * (A + 1 / 2000) = A * A + 1 / 1000 * A + 1 / 4000000 := by grind
      rw [t4] at t1
      grind
    have hqk : q ≤ k := by
      have t1 := Rat.mul_le_mul_of_nonneg_left hAR q0
      refine Rat.le_of_mul_le_mul_left (c := A) ?_ (by grind)
      grind
    have sd := (side_le p r).1
    have t0 := Rat.mul_nonneg (Rat.mul_nonneg q0 q0) q0
    refine ⟨hqk, Rat.mul_nonneg (by grind) t0, ?_⟩
    have t1 := Rat.mul_le_mul_of_nonneg_right sd t0
    have t2 : 10001 / 10000 * R * (q * q * q) = 10001 / 10000 * (q * q) * (q * R) := by grind
    rw [t2, i] at t1
    have t3 := (mul_bd (a := q) (b := q) (A := k) (B := k) (by grind) hqk (by grind) hqk).2
    have k0 := sq_nonneg k
    generalize q * q = qq at *
    generalize k * k = kk at *
    grind
  refine ⟨by grind, by grind, by grind, by grind, fun x y h _ _ _ => one_sq _ _ (by grind), fun x y h _ _ _ => one_sq _ _ (by grind), ?_, hc⟩
  intro s fx fy g X Y d e z R1 q1 R2 q2 hgg a1 a2 a3 a4 hP
  have b1 := key d z R1 q1 _ k1 (by grind) (by have := hP.d2; grind) hP.r1' hP.p1 hP.i1 h1
  have b2 := key e z R2 q2 _ k2 (by grind) (by have := hP.e2; grind) hP.r2' hP.p2 hP.i2 h2
  refine ⟨b1.1, b2.1, ?_, ?_⟩
  · have c1 := Rat.mul_nonneg (show 0 ≤ 1 - m by grind) b1.2.1
    have c2 := Rat.mul_nonneg (show 0 ≤ m by grind) b2.2.1
    unfold pullX
    grind
  · have c1 := Rat.mul_le_mul_of_nonneg_left b1.2.2 (show 0 ≤ 1 - m by grind)
    have c2 := Rat.mul_le_mul_of_nonneg_left b2.2.2 (show 0 ≤ m by grind)
    unfold pullX
    grind
theorem tick_s : Tick scH := ⟨⟨false, 8388608, -28, ⟨1023410176, rfl, by decide⟩, by decide +kernel⟩, ⟨false, 8388608, -29, ⟨1015021568, by kernel_rfl, by decide⟩, by decide +kernel⟩, ⟨false, 11184811, -31, ⟨1001040555, by kernel_rfl, by decide⟩, by decide +kernel⟩⟩
theorem shr0 : Shr (scShare 0) (1 / 32) := ⟨⟨false, 8388608, -28, ⟨1023410176, by kernel_rfl, by decide⟩, by decide +kernel⟩, ⟨true, 8388608, -28, ⟨3170893824, by kernel_rfl, by decide⟩, by decide +kernel⟩, ⟨false, 16252928, -24, ⟨1064828928, by kernel_rfl, by decide⟩, by decide +kernel⟩, by decide +kernel, by decide +kernel, by kernel_rfl⟩
theorem zone0 : Zone (1 / 32) (197 / 100) 5 (-3 / 10) (3 / 10) 0 (33 / 100) (22 / 100) (4000 / 8001) (4000 / 4001) := zone_s (by decide +kernel) (by decide +kernel) (by decide +kernel) (by decide +kernel) (by decide +kernel) (by decide +kernel)
theorem shr1 : Shr (scShare 1) (1 / 16) := ⟨⟨false, 8388608, -27, ⟨1031798784, by kernel_rfl, by decide⟩, by decide +kernel⟩, ⟨true, 8388608, -27, ⟨3179282432, by kernel_rfl, by decide⟩, by decide +kernel⟩, ⟨false, 15728640, -24, ⟨1064304640, by kernel_rfl, by decide⟩, by decide +kernel⟩, by decide +kernel, by decide +kernel, by kernel_rfl⟩
theorem zone1 : Zone (1 / 16) (197 / 100) 5 (-3 / 10) (3 / 10) 0 (33 / 100) (22 / 100) (2000 / 4063) (2000 / 2063) := zone_s (by decide +kernel) (by decide +kernel) (by decide +kernel) (by decide +kernel) (by decide +kernel) (by decide +kernel)
theorem shr2 : Shr (scShare 2) (3 / 32) := ⟨⟨false, 12582912, -27, ⟨1035993088, by kernel_rfl, by decide⟩, by decide +kernel⟩, ⟨true, 12582912, -27, ⟨3183476736, by kernel_rfl, by decide⟩, by decide +kernel⟩, ⟨false, 15204352, -24, ⟨1063780352, by kernel_rfl, by decide⟩, by decide +kernel⟩, by decide +kernel, by decide +kernel, by kernel_rfl⟩
theorem zone2 : Zone (3 / 32) (197 / 100) 5 (-3 / 10) (3 / 10) 0 (33 / 100) (22 / 100) (4000 / 8251) (4000 / 4251) := zone_s (by decide +kernel) (by decide +kernel) (by decide +kernel) (by decide +kernel) (by decide +kernel) (by decide +kernel)
theorem shr3 : Shr (scShare 3) (1 / 8) := ⟨⟨false, 8388608, -26, ⟨1040187392, by kernel_rfl, by decide⟩, by decide +kernel⟩, ⟨true, 8388608, -26, ⟨3187671040, by kernel_rfl, by decide⟩, by decide +kernel⟩, ⟨false, 14680064, -24, ⟨1063256064, by kernel_rfl, by decide⟩, by decide +kernel⟩, by decide +kernel, by decide +kernel, by kernel_rfl⟩
theorem zone3 : Zone (1 / 8) (197 / 100) 5 (-3 / 10) (3 / 10) 0 (33 / 100) (22 / 100) (500 / 1047) (500 / 547) := zone_s (by decide +kernel) (by decide +kernel) (by decide +kernel) (by decide +kernel) (by decide +kernel) (by decide +kernel)
theorem shr4 : Shr (scShare 4) (5 / 32) := ⟨⟨false, 10485760, -26, ⟨1042284544, by kernel_rfl, by decide⟩, by decide +kernel⟩, ⟨true, 10485760, -26, ⟨3189768192, by kernel_rfl, by decide⟩, by decide +kernel⟩, ⟨false, 14155776, -24, ⟨1062731776, by kernel_rfl, by decide⟩, by decide +kernel⟩, by decide +kernel, by decide +kernel, by kernel_rfl⟩
theorem zone4 : Zone (5 / 32) (197 / 100) 5 (-3 / 10) (3 / 10) 0 (33 / 100) (22 / 100) (4000 / 8501) (4000 / 4501) := zone_s (by decide +kernel) (by decide +kernel) (by decide +kernel) (by decide +kernel) (by decide +kernel) (by decide +kernel)
theorem shr5 : Shr (scShare 5) (3 / 16) := ⟨⟨false, 12582912, -26, ⟨1044381696, by kernel_rfl, by decide⟩, by decide +kernel⟩, ⟨true, 12582912, -26, ⟨3191865344, by kernel_rfl, by decide⟩, by decide +kernel⟩, ⟨false, 13631488, -24, ⟨1062207488, by kernel_rfl, by decide⟩, by decide +kernel⟩, by decide +kernel, by decide +kernel, by kernel_rfl⟩
theorem zone5 : Zone (3 / 16) (197 / 100) 5 (-3 / 10) (3 / 10) 0 (33 / 100) (22 / 100) (2000 / 4313) (2000 / 2313) := zone_s (by decide +kernel) (by decide +kernel) (by decide +kernel) (by decide +kernel) (by decide +kernel) (by decide +kernel)
theorem shr6 : Shr (scShare 6) (7 / 32) := ⟨⟨false, 14680064, -26, ⟨1046478848, by kernel_rfl, by decide⟩, by decide +kernel⟩, ⟨true, 14680064, -26, ⟨3193962496, by kernel_rfl, by decide⟩, by decide +kernel⟩, ⟨false, 13107200, -24, ⟨1061683200, by kernel_rfl, by decide⟩, by decide +kernel⟩, by decide +kernel, by decide +kernel, by kernel_rfl⟩
theorem zone6 : Zone (7 / 32) (197 / 100) 5 (-3 / 10) (3 / 10) 0 (33 / 100) (22 / 100) (4000 / 8751) (4000 / 4751) := zone_s (by decide +kernel) (by decide +kernel) (by decide +kernel) (by decide +kernel) (by decide +kernel) (by decide +kernel)
theorem shr7 : Shr (scShare 7) (1 / 4) := ⟨⟨false, 8388608, -25, ⟨1048576000, by kernel_rfl, by decide⟩, by decide +kernel⟩, ⟨true, 8388608, -25, ⟨3196059648, by kernel_rfl, by decide⟩, by decide +kernel⟩, ⟨false, 12582912, -24, ⟨1061158912, by kernel_rfl, by decide⟩, by decide +kernel⟩, by decide +kernel, by decide +kernel, by kernel_rfl⟩
theorem zone7 : Zone (1 / 4) (197 / 100) 5 (-3 / 10) (3 / 10) 0 (33 / 100) (22 / 100) (1000 / 2219) (1000 / 1219) := zone_s (by decide +kernel) (by decide +kernel) (by decide +kernel) (by decide +kernel) (by decide +kernel) (by decide +kernel)
theorem shr8 : Shr (scShare 8) (9 / 32) := ⟨⟨false, 9437184, -25, ⟨1049624576, by kernel_rfl, by decide⟩, by decide +kernel⟩, ⟨true, 9437184, -25, ⟨3197108224, by kernel_rfl, by decide⟩, by decide +kernel⟩, ⟨false, 12058624, -24, ⟨1060634624, by kernel_rfl, by decide⟩, by decide +kernel⟩, by decide +kernel, by decide +kernel, by kernel_rfl⟩
theorem zone8 : Zone (9 / 32) (197 / 100) 5 (-3 / 10) (3 / 10) 0 (33 / 100) (22 / 100) (4000 / 9001) (4000 / 5001) := zone_s (by decide +kernel) (by decide +kernel) (by decide +kernel) (by decide +kernel) (by decide +kernel) (by decide +kernel)
theorem shr9 : Shr (scShare 9) (5 / 16) := ⟨⟨false, 10485760, -25, ⟨1050673152, by kernel_rfl, by decide⟩, by decide +kernel⟩, ⟨true, 10485760, -25, ⟨3198156800, by kernel_rfl, by decide⟩, by decide +kernel⟩, ⟨false, 11534336, -24, ⟨1060110336, by kernel_rfl, by decide⟩, by decide +kernel⟩, by decide +kernel, by decide +kernel, by kernel_rfl⟩
theorem zone9 : Zone (5 / 16) (197 / 100) 5 (-3 / 10) (3 / 10) 0 (33 / 100) (22 / 100) (2000 / 4563) (2000 / 2563) := zone_s (by decide +kernel) (by decide +kernel) (by decide +kernel) (by decide +kernel) (by decide +kernel) (by decide +kernel)
theorem shr10 : Shr (scShare 10) (11 / 32) := ⟨⟨false, 11534336, -25, ⟨1051721728, by kernel_rfl, by decide⟩, by decide +kernel⟩, ⟨true, 11534336, -25, ⟨3199205376, by kernel_rfl, by decide⟩, by decide +kernel⟩, ⟨false, 11010048, -24, ⟨1059586048, by kernel_rfl, by decide⟩, by decide +kernel⟩, by decide +kernel, by decide +kernel, by kernel_rfl⟩
theorem zone10 : Zone (11 / 32) (197 / 100) 5 (-3 / 10) (3 / 10) 0 (33 / 100) (22 / 100) (4000 / 9251) (4000 / 5251) := zone_s (by decide +kernel) (by decide +kernel) (by decide +kernel) (by decide +kernel) (by decide +kernel) (by decide +kernel)
theorem shr11 : Shr (scShare 11) (3 / 8) := ⟨⟨false, 12582912, -25, ⟨1052770304, by kernel_rfl, by decide⟩, by decide +kernel⟩, ⟨true, 12582912, -25, ⟨3200253952, by kernel_rfl, by decide⟩, by decide +kernel⟩, ⟨false, 10485760, -24, ⟨1059061760, by kernel_rfl, by decide⟩, by decide +kernel⟩, by decide +kernel, by decide +kernel, by kernel_rfl⟩
theorem zone11 : Zone (3 / 8) (197 / 100) 5 (-3 / 10) (3 / 10) 0 (33 / 100) (22 / 100) (125 / 293) (125 / 168) := zone_s (by decide +kernel) (by decide +kernel) (by decide +kernel) (by decide +kernel) (by decide +kernel) (by decide +kernel)
theorem shr12 : Shr (scShare 12) (13 / 32) := ⟨⟨false, 13631488, -25, ⟨1053818880, by kernel_rfl, by decide⟩, by decide +kernel⟩, ⟨true, 13631488, -25, ⟨3201302528, by kernel_rfl, by decide⟩, by decide +kernel⟩, ⟨false, 9961472, -24, ⟨1058537472, by kernel_rfl, by decide⟩, by decide +kernel⟩, by decide +kernel, by decide +kernel, by kernel_rfl⟩
theorem zone12 : Zone (13 / 32) (197 / 100) 5 (-3 / 10) (3 / 10) 0 (33 / 100) (22 / 100) (4000 / 9501) (4000 / 5501) := zone_s (by decide +kernel) (by decide +kernel) (by decide +kernel) (by decide +kernel) (by decide +kernel) (by decide +kernel)
theorem shr13 : Shr (scShare 13) (7 / 16) := ⟨⟨false, 14680064, -25, ⟨1054867456, by kernel_rfl, by decide⟩, by decide +kernel⟩, ⟨true, 14680064, -25, ⟨3202351104, by kernel_rfl, by decide⟩, by decide +kernel⟩, ⟨false, 9437184, -24, ⟨1058013184, by kernel_rfl, by decide⟩, by decide +kernel⟩, by decide +kernel, by decide +kernel, by kernel_rfl⟩
theorem zone13 : Zone (7 / 16) (197 / 100) 5 (-3 / 10) (3 / 10) 0 (33 / 100) (22 / 100) (2000 / 4813) (2000 / 2813) := zone_s (by decide +kernel) (by decide +kernel) (by decide +kernel) (by decide +kernel) (by decide +kernel) (by decide +kernel)
theorem shr14 : Shr (scShare 14) (15 / 32) := ⟨⟨false, 15728640, -25, ⟨1055916032, by kernel_rfl, by decide⟩, by decide +kernel⟩, ⟨true, 15728640, -25, ⟨3203399680, by kernel_rfl, by decide⟩, by decide +kernel⟩, ⟨false, 8912896, -24, ⟨1057488896, by kernel_rfl, by decide⟩, by decide +kernel⟩, by decide +kernel, by decide +kernel, by kernel_rfl⟩
theorem zone14 : Zone (15 / 32) (197 / 100) 5 (-3 / 10) (3 / 10) 0 (33 / 100) (22 / 100) (4000 / 9751) (4000 / 5751) := zone_s (by decide +kernel) (by decide +kernel) (by decide +kernel) (by decide +kernel) (by decide +kernel) (by decide +kernel)
theorem shr15 : Shr (scShare 15) (1 / 2) := ⟨⟨false, 8388608, -24, ⟨1056964608, by kernel_rfl, by decide⟩, by decide +kernel⟩, ⟨true, 8388608, -24, ⟨3204448256, by kernel_rfl, by decide⟩, by decide +kernel⟩, ⟨false, 8388608, -24, ⟨1056964608, by kernel_rfl, by decide⟩, by decide +kernel⟩, by decide +kernel, by decide +kernel, by kernel_rfl⟩
theorem zone15 : Zone (1 / 2) (197 / 100) 5 (-3 / 10) (3 / 10) 0 (33 / 100) (22 / 100) (1000 / 2469) (1000 / 1469) := zone_s (by decide +kernel) (by decide +kernel) (by decide +kernel) (by decide +kernel) (by decide +kernel) (by decide +kernel)
theorem share_zone (a : Int) (h0 : 0 ≤ a) (h1 : a < 16) : ∃ m k1 k2 : Rat, Shr (scShare a) m ∧ Zone m (197 / 100) 5 (-3 / 10) (3 / 10) 0 (33 / 100) (22 / 100) k1 k2 := by
  have h' : a = 0 ∨ a = 1 ∨ a = 2 ∨ a = 3 ∨ a = 4 ∨ a = 5 ∨ a = 6 ∨ a = 7 ∨ a = 8 ∨ a = 9 ∨ a = 10 ∨ a = 11 ∨ a = 12 ∨ a = 13 ∨ a = 14 ∨ a = 15 := by omega
  rcases h' with rfl | rfl | rfl | rfl | rfl | rfl | rfl | rfl | rfl | rfl | rfl | rfl | rfl | rfl | rfl | rfl
  · exact ⟨_, _, _, shr0, zone0⟩
  · exact ⟨_, _, _, shr1, zone1⟩
  · exact ⟨_, _, _, shr2, zone2⟩
  · exact ⟨_, _, _, shr3, zone3⟩
  · exact ⟨_, _, _, shr4, zone4⟩
  · exact ⟨_, _, _, shr5, zone5⟩
  · exact ⟨_, _, _, shr6, zone6⟩
  · exact ⟨_, _, _, shr7, zone7⟩
  · exact ⟨_, _, _, shr8, zone8⟩
  · exact ⟨_, _, _, shr9, zone9⟩
  · exact ⟨_, _, _, shr10, zone10⟩
  · exact ⟨_, _, _, shr11, zone11⟩
  · exact ⟨_, _, _, shr12, zone12⟩
  · exact ⟨_, _, _, shr13, zone13⟩
  · exact ⟨_, _, _, shr14, zone14⟩
  · exact ⟨_, _, _, shr15, zone15⟩
theorem start_x (b : Int) (h0 : 0 ≤ b) (h1 : b < 8) : HasS (two32 + iW b / c32 1082130432) (2 + (b : Rat) / 4) ∧ HasS (two32 + iW b / c32 1082130432 + c32 1006632960) (2 + (b : Rat) / 4 + 1 / 128) := by
  have h' : b = 0 ∨ b = 1 ∨ b = 2 ∨ b = 3 ∨ b = 4 ∨ b = 5 ∨ b = 6 ∨ b = 7 := by omega
  rcases h' with rfl | rfl | rfl | rfl | rfl | rfl | rfl | rfl
  · exact ⟨⟨false, 8388608, -22, ⟨1073741824, by kernel_rfl, by decide⟩, by decide +kernel⟩, ⟨false, 8421376, -22, ⟨1073774592, by kernel_rfl, by decide⟩, by decide +kernel⟩⟩
  · exact ⟨⟨false, 9437184, -22, ⟨1074790400, by kernel_rfl, by decide⟩, by decide +kernel⟩, ⟨false, 9469952, -22, ⟨1074823168, by kernel_rfl, by decide⟩, by decide +kernel⟩⟩
  · exact ⟨⟨false, 10485760, -22, ⟨1075838976, by kernel_rfl, by decide⟩, by decide +kernel⟩, ⟨false, 10518528, -22, ⟨1075871744, by kernel_rfl, by decide⟩, by decide +kernel⟩⟩
  · exact ⟨⟨false, 11534336, -22, ⟨1076887552, by kernel_rfl, by decide⟩, by decide +kernel⟩, ⟨false, 11567104, -22, ⟨1076920320, by kernel_rfl, by decide⟩, by decide +kernel⟩⟩
  · exact ⟨⟨false, 12582912, -22, ⟨1077936128, by kernel_rfl, by decide⟩, by decide +kernel⟩, ⟨false, 12615680, -22, ⟨1077968896, by kernel_rfl, by decide⟩, by decide +kernel⟩⟩
  · exact ⟨⟨false, 13631488, -22, ⟨1078984704, by kernel_rfl, by decide⟩, by decide +kernel⟩, ⟨false, 13664256, -22, ⟨1079017472, by kernel_rfl, by decide⟩, by decide +kernel⟩⟩
  · exact ⟨⟨false, 14680064, -22, ⟨1080033280, by kernel_rfl, by decide⟩, by decide +kernel⟩, ⟨false, 14712832, -22, ⟨1080066048, by kernel_rfl, by decide⟩, by decide +kernel⟩⟩
  · exact ⟨⟨false, 15728640, -22, ⟨1081081856, by kernel_rfl, by decide⟩, by decide +kernel⟩, ⟨false, 15761408, -22, ⟨1081114624, by kernel_rfl, by decide⟩, by decide +kernel⟩⟩
theorem start_u (d : Int) (h0 : 0 ≤ d) (h1 : d < 17) : HasS (drQ d 8 / c32 1082130432) (((d : Rat) - 8) / 32) := by
  have h' : d = 0 ∨ d = 1 ∨ d = 2 ∨ d = 3 ∨ d = 4 ∨ d = 5 ∨ d = 6 ∨ d = 7 ∨ d = 8 ∨ d = 9 ∨ d = 10 ∨ d = 11 ∨ d = 12 ∨ d = 13 ∨ d = 14 ∨ d = 15 ∨ d = 16 := by omega
  rcases h' with rfl | rfl | rfl | rfl | rfl | rfl | rfl | rfl | rfl | rfl | rfl | rfl | rfl | rfl | rfl | rfl | rfl
  · exact ⟨true, 8388608, -25, ⟨3196059648, by kernel_rfl, by decide⟩, by decide +kernel⟩
  · exact ⟨true, 14680064, -26, ⟨3193962496, by kernel_rfl, by decide⟩, by decide +kernel⟩
  · exact ⟨true, 12582912, -26, ⟨3191865344, by kernel_rfl, by decide⟩, by decide +kernel⟩
  · exact ⟨true, 10485760, -26, ⟨3189768192, by kernel_rfl, by decide⟩, by decide +kernel⟩
  · exact ⟨true, 8388608, -26, ⟨3187671040, by kernel_rfl, by decide⟩, by decide +kernel⟩
  · exact ⟨true, 12582912, -27, ⟨3183476736, by kernel_rfl, by decide⟩, by decide +kernel⟩
  · exact ⟨true, 8388608, -27, ⟨3179282432, by kernel_rfl, by decide⟩, by decide +kernel⟩
  · exact ⟨true, 8388608, -28, ⟨3170893824, by kernel_rfl, by decide⟩, by decide +kernel⟩
  · exact ⟨false, 0, -149, ⟨0, by kernel_rfl, by decide⟩, by decide +kernel⟩
  · exact ⟨false, 8388608, -28, ⟨1023410176, by kernel_rfl, by decide⟩, by decide +kernel⟩
  · exact ⟨false, 8388608, -27, ⟨1031798784, by kernel_rfl, by decide⟩, by decide +kernel⟩
  · exact ⟨false, 12582912, -27, ⟨1035993088, by kernel_rfl, by decide⟩, by decide +kernel⟩
  · exact ⟨false, 8388608, -26, ⟨1040187392, by kernel_rfl, by decide⟩, by decide +kernel⟩
  · exact ⟨false, 10485760, -26, ⟨1042284544, by kernel_rfl, by decide⟩, by decide +kernel⟩
  · exact ⟨false, 12582912, -26, ⟨1044381696, by kernel_rfl, by decide⟩, by decide +kernel⟩
  · exact ⟨false, 14680064, -26, ⟨1046478848, by kernel_rfl, by decide⟩, by decide +kernel⟩
  · exact ⟨false, 8388608, -25, ⟨1048576000, by kernel_rfl, by decide⟩, by decide +kernel⟩
theorem start_y : HasS (c32 3196059648) (-1 / 4) ∧ HasS (c32 3196059648 + c32 0) (-1 / 4) := ⟨⟨true, 8388608, -25, ⟨3196059648, rfl, by decide⟩, by decide +kernel⟩, ⟨true, 8388608, -25, ⟨3196059648, by kernel_rfl, by decide⟩, by decide +kernel⟩⟩
theorem one_hasS : HasS one32 1 := ⟨false, 8388608, -23, ⟨1065353216, rfl, by decide⟩, by decide +kernel⟩
def box0 : Nat → Bx
  | 0 => ⟨2, 257 / 128, -1 / 4, -1 / 4, -1 / 4, 1 / 4, 1, 1⟩
  | 1 => ⟨32669 / 16384, 132225 / 65536, -14363 / 65536, -1791 / 8192, -8929 / 65536, 12309 / 32768, 63773 / 65536, 32977 / 32768⟩
  | 2 => ⟨130511 / 65536, 33281 / 16384, -3101 / 16384, -12265 / 65536, -1607 / 65536, 32889 / 65536, 15389 / 16384, 8245 / 8192⟩
  | 3 => ⟨130573 / 65536, 67141 / 32768, -5261 / 32768, -319 / 2048, 695 / 8192, 10295 / 16384, 29441 / 32768, 65563 / 65536⟩
  | 4 => ⟨16357 / 8192, 135699 / 65536, -4365 / 32768, -4085 / 32768, 12551 / 65536, 24737 / 32768, 55747 / 65536, 32387 / 32768⟩
  | 5 => ⟨65677 / 32768, 137375 / 65536, -7043 / 65536, -6163 / 65536, 1209 / 4096, 57755 / 65536, 13037 / 16384, 63603 / 65536⟩
  | 6 => ⟨132061 / 65536, 139309 / 65536, -1369 / 16384, -2099 / 32768, 25917 / 65536, 8251 / 8192, 48083 / 65536, 62063 / 65536⟩
  | 7 => ⟨66485 / 32768, 141501 / 65536, -1011 / 16384, -2287 / 65536, 16123 / 32768, 37109 / 32768, 43551 / 65536, 60167 / 65536⟩
  | 8 => ⟨134073 / 65536, 35987 / 16384, -2761 / 65536, -55 / 8192, 38309 / 65536, 82371 / 65536, 19275 / 32768, 57929 / 65536⟩
  | 9 => ⟨135361 / 65536, 146649 / 65536, -1641 / 65536, 333 / 16384, 22041 / 32768, 90455 / 65536, 33079 / 65536, 55369 / 65536⟩
  | 10 => ⟨17103 / 8192, 74801 / 32768, -699 / 65536, 3019 / 65536, 49541 / 65536, 49229 / 32768, 27137 / 65536, 52511 / 65536⟩
  | 11 => ⟨138453 / 65536, 152803 / 65536, 49 / 65536, 1153 / 16384, 27331 / 32768, 106369 / 65536, 5181 / 16384, 24687 / 32768⟩
  | 12 => ⟨35059 / 16384, 78125 / 32768, 295 / 32768, 6103 / 65536, 59421 / 65536, 28545 / 16384, 6919 / 32768, 5747 / 8192⟩
  | _ => ⟨0, 0, 0, 0, 0, 0, 0, 0⟩
theorem box0_ok : chkN (197 / 100) 5 (-3 / 10) (3 / 10) 0 (33 / 100) (22 / 100) box0 12 = true := by decide +kernel
def box1 : Nat → Bx
  | 0 => ⟨9 / 4, 289 / 128, -1 / 4, -1 / 4, -1 / 4, 1 / 4, 1, 1⟩
  | 1 => ⟨36767 / 16384, 148617 / 65536, -14363 / 65536, -1791 / 8192, -8417 / 65536, 12565 / 32768, 63757 / 65536, 32969 / 32768⟩
  | 2 => ⟨146927 / 65536, 37385 / 16384, -12405 / 65536, -6133 / 32768, -585 / 65536, 4239 / 8192, 15373 / 16384, 8237 / 8192⟩
  | 3 => ⟨147029 / 65536, 75369 / 32768, -5263 / 32768, -10213 / 65536, 3545 / 32768, 42711 / 65536, 29369 / 32768, 16355 / 16384⟩
  | 4 => ⟨18421 / 8192, 152211 / 65536, -2185 / 16384, -8181 / 65536, 1823 / 8192, 12877 / 16384, 55491 / 65536, 64519 / 65536⟩
  | 5 => ⟨73969 / 32768, 76979 / 32768, -883 / 8192, -773 / 8192, 10937 / 32768, 30143 / 32768, 51749 / 65536, 63205 / 65536⟩
  | 6 => ⟨37183 / 16384, 155979 / 65536, -689 / 8192, -2117 / 32768, 3617 / 8192, 17257 / 16384, 23755 / 32768, 61491 / 65536⟩
  | 7 => ⟨149743 / 65536, 158273 / 65536, -4101 / 65536, -293 / 8192, 17873 / 32768, 77719 / 65536, 10693 / 16384, 29695 / 32768⟩
  | 8 => ⟨75481 / 32768, 160837 / 65536, -2845 / 65536, -525 / 65536, 42279 / 65536, 43171 / 32768, 37535 / 65536, 56917 / 65536⟩
  | 9 => ⟨152381 / 65536, 163669 / 65536, -1761 / 65536, 1211 / 65536, 24255 / 32768, 23721 / 16384, 15899 / 32768, 54091 / 65536⟩
  | 10 => ⟨76995 / 32768, 166767 / 65536, -27 / 2048, 2853 / 65536, 27207 / 32768, 25833 / 16384, 25561 / 65536, 25469 / 32768⟩
  | 11 => ⟨77889 / 32768, 170127 / 65536, -85 / 32768, 549 / 8192, 29983 / 32768, 55837 / 32768, 2353 / 8192, 47477 / 65536⟩
  | 12 => ⟨157733 / 65536, 86873 / 32768, 153 / 32768, 2909 / 32768, 16285 / 16384, 29975 / 16384, 11587 / 65536, 43727 / 65536⟩
  | _ => ⟨0, 0, 0, 0, 0, 0, 0, 0⟩
theorem box1_ok : chkN (197 / 100) 5 (-3 / 10) (3 / 10) 0 (33 / 100) (22 / 100) box1 12 = true := by decide +kernel
def box2 : Nat → Bx
  | 0 => ⟨5 / 2, 321 / 128, -1 / 4, -1 / 4, -1 / 4, 1 / 4, 1, 1⟩
  | 1 => ⟨40865 / 16384, 165009 / 65536, -14363 / 65536, -1791 / 8192, -7905 / 65536, 12821 / 32768, 63741 / 65536, 32961 / 32768⟩
  | 2 => ⟨163343 / 65536, 41489 / 16384, -6203 / 32768, -3067 / 16384, 437 / 65536, 17467 / 32768, 15357 / 16384, 8229 / 8192⟩
  | 3 => ⟨40871 / 16384, 83597 / 32768, -5265 / 32768, -5109 / 32768, 8619 / 65536, 2765 / 4096, 29297 / 32768, 16319 / 16384⟩
  | 4 => ⟨81939 / 32768, 84361 / 32768, -8751 / 65536, -1 / 8, 2077 / 8192, 13385 / 16384, 13809 / 16384, 8033 / 8192⟩
  | 5 => ⟨164519 / 65536, 170541 / 65536, -7085 / 65536, -6205 / 65536, 24403 / 65536, 62815 / 65536, 51351 / 65536, 62807 / 65536⟩
  | 6 => ⟨20675 / 8192, 172649 / 65536, -1387 / 16384, -2135 / 32768, 15977 / 32768, 72047 / 65536, 23469 / 32768, 60919 / 65536⟩
  | 7 => ⟨166513 / 65536, 175045 / 65536, -2079 / 32768, -2401 / 65536, 9811 / 16384, 40609 / 32768, 41995 / 65536, 58613 / 65536⟩
  | 8 => ⟨167849 / 65536, 88863 / 32768, -1465 / 32768, -305 / 32768, 46247 / 65536, 11289 / 8192, 18261 / 32768, 55905 / 65536⟩
  | 9 => ⟨169399 / 65536, 90345 / 32768, -941 / 32768, 545 / 32768, 6617 / 8192, 6207 / 4096, 30519 / 65536, 26407 / 32768⟩
  | 10 => ⟨171153 / 65536, 183933 / 65536, -515 / 32768, 21 / 512, 59285 / 65536, 108205 / 65536, 23987 / 65536, 24683 / 32768⟩
  | 11 => ⟨43275 / 16384, 46863 / 16384, -195 / 32768, 4173 / 65536, 65267 / 65536, 58489 / 32768, 8463 / 32768, 45581 / 65536⟩
  | 12 => ⟨175227 / 65536, 191243 / 65536, 21 / 65536, 5535 / 65536, 70855 / 65536, 62809 / 32768, 9337 / 65536, 41479 / 65536⟩
  | _ => ⟨0, 0, 0, 0, 0, 0, 0, 0⟩
theorem box2_ok : chkN (197 / 100) 5 (-3 / 10) (3 / 10) 0 (33 / 100) (22 / 100) box2 12 = true := by decide +kernel
def box3 : Nat → Bx
  | 0 => ⟨11 / 4, 353 / 128, -1 / 4, -1 / 4, -1 / 4, 1 / 4, 1, 1⟩
  | 1 => ⟨44963 / 16384, 181401 / 65536, -14363 / 65536, -1791 / 8192, -3697 / 32768, 26153 / 65536, 63725 / 65536, 32953 / 32768⟩
  | 2 => ⟨179759 / 65536, 45593 / 16384, -1551 / 8192, -12269 / 65536, 1459 / 65536, 35955 / 65536, 61365 / 65536, 8221 / 8192⟩
  | 3 => ⟨44985 / 16384, 183649 / 65536, -10535 / 65536, -5111 / 32768, 2537 / 16384, 5721 / 8192, 58451 / 65536, 16283 / 16384⟩
  | 4 => ⟨90195 / 32768, 185233 / 65536, -4381 / 32768, -4101 / 32768, 2331 / 8192, 55571 / 65536, 54981 / 65536, 8001 / 8192⟩
  | 5 => ⟨90551 / 32768, 187123 / 65536, -3553 / 32768, -6225 / 65536, 6733 / 16384, 65343 / 65536, 50953 / 65536, 7801 / 8192⟩
  | 6 => ⟨182069 / 65536, 94659 / 32768, -5585 / 65536, -4305 / 65536, 34973 / 65536, 9383 / 8192, 46365 / 65536, 30173 / 32768⟩
  | 7 => ⟨183283 / 65536, 191815 / 65536, -527 / 8192, -2457 / 65536, 42743 / 65536, 84715 / 65536, 41217 / 65536, 57835 / 65536⟩
  | 8 => ⟨5773 / 2048, 194613 / 65536, -377 / 8192, -347 / 32768, 6277 / 8192, 94279 / 65536, 35509 / 65536, 13723 / 16384⟩
  | 9 => ⟨186417 / 65536, 49427 / 16384, -2003 / 65536, 971 / 65536, 14341 / 16384, 51869 / 32768, 29241 / 65536, 51535 / 65536⟩
  | 10 => ⟨47079 / 16384, 201097 / 65536, -1195 / 65536, 2525 / 65536, 32079 / 32768, 28269 / 16384, 11207 / 32768, 2987 / 4096⟩
  | 11 => ⟨95211 / 32768, 204775 / 65536, -609 / 65536, 989 / 16384, 70571 / 65536, 122279 / 65536, 15029 / 65536, 43683 / 65536⟩
  | 12 => ⟨96361 / 32768, 208739 / 65536, -263 / 65536, 5253 / 65536, 38287 / 32768, 65667 / 32768, 443 / 4096, 9807 / 16384⟩
  | _ => ⟨0, 0, 0, 0, 0, 0, 0, 0⟩
theorem box3_ok : chkN (197 / 100) 5 (-3 / 10) (3 / 10) 0 (33 / 100) (22 / 100) box3 12 = true := by decide +kernel
def box4 : Nat → Bx
  | 0 => ⟨3, 385 / 128, -1 / 4, -1 / 4, -1 / 4, 1 / 4, 1, 1⟩
  | 1 => ⟨49061 / 16384, 197793 / 65536, -3591 / 16384, -1791 / 8192, -3441 / 32768, 26665 / 65536, 63709 / 65536, 32945 / 32768⟩
  | 2 => ⟨196175 / 65536, 49697 / 16384, -6205 / 32768, -6135 / 32768, 2481 / 65536, 36977 / 65536, 61301 / 65536, 8213 / 8192⟩
  | 3 => ⟨49099 / 16384, 200105 / 65536, -2635 / 16384, -5113 / 32768, 5839 / 32768, 47297 / 65536, 58307 / 65536, 16247 / 16384⟩
  | 4 => ⟨98451 / 32768, 201745 / 65536, -8773 / 65536, -8213 / 65536, 2585 / 8192, 28801 / 32768, 27363 / 32768, 63753 / 65536⟩
  | 5 => ⟨197685 / 65536, 101853 / 32768, -7127 / 65536, -3123 / 32768, 7365 / 16384, 67871 / 65536, 50555 / 65536, 31005 / 32768⟩
  | 6 => ⟨198739 / 65536, 205987 / 65536, -5621 / 65536, -4341 / 65536, 18995 / 32768, 78081 / 65536, 45793 / 65536, 29887 / 32768⟩
  | 7 => ⟨200055 / 65536, 104293 / 32768, -4273 / 65536, -1257 / 32768, 46241 / 65536, 88213 / 65536, 5055 / 8192, 28529 / 32768⟩
  | 8 => ⟨25203 / 8192, 52875 / 16384, -3101 / 65536, -779 / 65536, 6773 / 8192, 98247 / 65536, 539 / 1024, 6735 / 8192⟩
  | 9 => ⟨50859 / 16384, 107363 / 32768, -531 / 16384, 425 / 32768, 30895 / 32768, 27041 / 16384, 13981 / 32768, 25129 / 32768⟩
  | 10 => ⟨25685 / 8192, 54565 / 16384, -1361 / 65536, 2359 / 65536, 69029 / 65536, 117947 / 65536, 2605 / 8192, 11555 / 16384⟩
  | 11 => ⟨207745 / 65536, 222097 / 65536, -829 / 65536, 467 / 8192, 2371 / 2048, 127581 / 65536, 13131 / 65536, 41787 / 65536⟩
  | 12 => ⟨210217 / 65536, 226233 / 65536, -547 / 65536, 621 / 8192, 82289 / 65536, 68525 / 32768, 2419 / 32768, 9245 / 16384⟩
  | _ => ⟨0, 0, 0, 0, 0, 0, 0, 0⟩
theorem box4_ok : chkN (197 / 100) 5 (-3 / 10) (3 / 10) 0 (33 / 100) (22 / 100) box4 12 = true := by decide +kernel
def box5 : Nat → Bx
  | 0 => ⟨13 / 4, 417 / 128, -1 / 4, -1 / 4, -1 / 4, 1 / 4, 1, 1⟩
  | 1 => ⟨53159 / 16384, 214185 / 65536, -3591 / 16384, -14329 / 65536, -3185 / 32768, 27177 / 65536, 63693 / 65536, 32937 / 32768⟩
  | 2 => ⟨212591 / 65536, 53801 / 16384, -12411 / 65536, -767 / 4096, 3503 / 65536, 2375 / 4096, 61237 / 65536, 8205 / 8192⟩
  | 3 => ⟨53213 / 16384, 216561 / 65536, -659 / 4096, -10231 / 65536, 13207 / 65536, 12207 / 16384, 14541 / 16384, 16211 / 16384⟩
  | 4 => ⟨213413 / 65536, 13641 / 4096, -8783 / 65536, -257 / 2048, 2839 / 8192, 14909 / 16384, 54471 / 65536, 63497 / 65536⟩
  | 5 => ⟨53567 / 16384, 220289 / 65536, -7147 / 65536, -6267 / 65536, 31989 / 65536, 70401 / 65536, 50157 / 65536, 61611 / 65536⟩
  | 6 => ⟨215409 / 65536, 222657 / 65536, -707 / 8192, -4377 / 65536, 2563 / 4096, 81101 / 65536, 45221 / 65536, 925 / 1024⟩
  | 7 => ⟨216827 / 65536, 112679 / 32768, -4329 / 65536, -2571 / 65536, 49739 / 65536, 91713 / 65536, 39663 / 65536, 7035 / 8192⟩
  | 8 => ⟨218513 / 65536, 228389 / 65536, -3185 / 65536, -27 / 2048, 7269 / 8192, 102217 / 65536, 8371 / 16384, 52867 / 65536⟩
  | 9 => ⟨220457 / 65536, 115873 / 32768, -561 / 16384, 729 / 65536, 8277 / 8192, 7037 / 4096, 26685 / 65536, 12245 / 16384⟩
  | 10 => ⟨222647 / 65536, 235425 / 65536, -1525 / 65536, 1097 / 32768, 73901 / 65536, 30705 / 16384, 4817 / 16384, 44647 / 65536⟩
  | 11 => ⟨225071 / 65536, 239421 / 65536, -1047 / 65536, 3517 / 65536, 81175 / 65536, 33221 / 16384, 11235 / 65536, 19945 / 32768⟩
  | 12 => ⟨227715 / 65536, 243729 / 65536, -415 / 32768, 4685 / 65536, 88007 / 65536, 8923 / 4096, 1295 / 32768, 34731 / 65536⟩
  | _ => ⟨0, 0, 0, 0, 0, 0, 0, 0⟩
theorem box5_ok : chkN (197 / 100) 5 (-3 / 10) (3 / 10) 0 (33 / 100) (22 / 100) box5 12 = true := by decide +kernel
def box6 : Nat → Bx
  | 0 => ⟨7 / 2, 449 / 128, -1 / 4, -1 / 4, -1 / 4, 1 / 4, 1, 1⟩
  | 1 => ⟨57257 / 16384, 230577 / 65536, -3591 / 16384, -14329 / 65536, -2929 / 32768, 27689 / 65536, 63677 / 65536, 32929 / 32768⟩
  | 2 => ⟨229007 / 65536, 57905 / 16384, -3103 / 16384, -12273 / 65536, 4525 / 65536, 19511 / 32768, 61173 / 65536, 8197 / 8192⟩
  | 3 => ⟨57327 / 16384, 233017 / 65536, -2637 / 16384, -10235 / 65536, 921 / 4096, 50357 / 65536, 14505 / 16384, 16175 / 16384⟩
  | 4 => ⟨229925 / 65536, 14673 / 4096, -8793 / 65536, -4117 / 32768, 3093 / 8192, 15417 / 16384, 6777 / 8192, 31621 / 32768⟩
  | 5 => ⟨230851 / 65536, 29609 / 8192, -7167 / 65536, -6287 / 65536, 17259 / 32768, 36465 / 32768, 49759 / 65536, 61213 / 65536⟩
  | 6 => ⟨116039 / 32768, 239327 / 65536, -5691 / 65536, -1103 / 16384, 44027 / 65536, 84119 / 65536, 44649 / 65536, 14657 / 16384⟩
  | 7 => ⟨116799 / 32768, 121065 / 32768, -4385 / 65536, -2627 / 65536, 53239 / 65536, 23803 / 16384, 19443 / 32768, 55503 / 65536⟩
  | 8 => ⟨235401 / 65536, 122639 / 32768, -3269 / 65536, -237 / 16384, 31061 / 32768, 53093 / 32768, 32471 / 65536, 25927 / 32768⟩
  | 9 => ⟨59369 / 16384, 248767 / 65536, -591 / 16384, 609 / 65536, 70645 / 65536, 29255 / 16384, 12703 / 32768, 23851 / 32768⟩
  | 10 => ⟨239811 / 65536, 15787 / 4096, -1689 / 65536, 2029 / 65536, 78775 / 65536, 63847 / 32768, 8847 / 32768, 21537 / 32768⟩
  | 11 => ⟨121197 / 32768, 256747 / 65536, -633 / 32768, 3297 / 65536, 86479 / 65536, 138189 / 65536, 9337 / 65536, 37993 / 65536⟩
  | 12 => ⟨122605 / 32768, 261227 / 65536, -557 / 32768, 275 / 4096, 46863 / 32768, 18561 / 8192, 339 / 65536, 32481 / 65536⟩
  | _ => ⟨0, 0, 0, 0, 0, 0, 0, 0⟩
theorem box6_ok : chkN (197 / 100) 5 (-3 / 10) (3 / 10) 0 (33 / 100) (22 / 100) box6 12 = true := by decide +kernel
def box7 : Nat → Bx
  | 0 => ⟨15 / 4, 481 / 128, -1 / 4, -1 / 4, -1 / 4, 1 / 4, 1, 1⟩
  | 1 => ⟨61355 / 16384, 246969 / 65536, -3591 / 16384, -14329 / 65536, -5347 / 65536, 3525 / 8192, 63661 / 65536, 32921 / 32768⟩
  | 2 => ⟨245423 / 65536, 62009 / 16384, -12413 / 65536, -6137 / 32768, 5547 / 65536, 40043 / 65536, 61109 / 65536, 8189 / 8192⟩
  | 3 => ⟨61441 / 16384, 249473 / 65536, -10553 / 65536, -10239 / 65536, 16265 / 65536, 51885 / 65536, 14469 / 16384, 64557 / 65536⟩
  | 4 => ⟨246437 / 65536, 15705 / 4096, -2201 / 16384, -2061 / 16384, 3347 / 8192, 63699 / 65536, 6745 / 8192, 62987 / 65536⟩
  | 5 => ⟨123717 / 32768, 253455 / 65536, -1797 / 16384, -6307 / 65536, 37047 / 65536, 37729 / 32768, 3085 / 4096, 3801 / 4096⟩
  | 6 => ⟨62187 / 16384, 63999 / 16384, -5727 / 65536, -139 / 2048, 47045 / 65536, 87137 / 65536, 44075 / 65536, 58057 / 65536⟩
  | 7 => ⟨125185 / 32768, 258901 / 65536, -2221 / 32768, -671 / 16384, 56737 / 65536, 49355 / 32768, 38107 / 65536, 54727 / 65536⟩
  | 8 => ⟨126145 / 32768, 262165 / 65536, -1677 / 32768, -129 / 8192, 33045 / 32768, 55077 / 32768, 983 / 2048, 50843 / 65536⟩
  | 9 => ⟨7953 / 2048, 265785 / 65536, -621 / 16384, 245 / 32768, 75071 / 65536, 60723 / 32768, 24125 / 65536, 23213 / 32768⟩
  | 10 => ⟨16061 / 4096, 269755 / 65536, -927 / 32768, 933 / 32768, 41823 / 32768, 132565 / 65536, 16117 / 65536, 41503 / 65536⟩
  | 11 => ⟨129859 / 32768, 274069 / 65536, -1485 / 65536, 385 / 8192, 91781 / 65536, 71745 / 32768, 1859 / 16384, 18049 / 32768⟩
  | 12 => ⟨262707 / 65536, 139361 / 32768, -699 / 32768, 2059 / 32768, 49721 / 32768, 154203 / 65536, -957 / 32768, 15117 / 32768⟩
  | _ => ⟨0, 0, 0, 0, 0, 0, 0, 0⟩
theorem box7_ok : chkN (197 / 100) 5 (-3 / 10) (3 / 10) 0 (33 / 100) (22 / 100) box7 12 = true := by decide +kernel
def difD : Nat → V4
  | 0 => ⟨1 / 128, 0, 0, 0⟩
  | 1 => ⟨32811 / 4194304, 3 / 524288, 33 / 65536, 3603 / 16777216⟩
  | 2 => ⟨32921 / 4194304, 313 / 16777216, 2145 / 2097152, 3879 / 8388608⟩
  | 3 => ⟨132401 / 16777216, 669 / 16777216, 26189 / 16777216, 12495 / 16777216⟩
  | 4 => ⟨66703 / 8388608, 591 / 8388608, 35593 / 16777216, 17851 / 16777216⟩
  | 5 => ⟨16839 / 2097152, 1873 / 16777216, 45433 / 16777216, 5967 / 4194304⟩
  | 6 => ⟨136333 / 16777216, 2763 / 16777216, 55773 / 16777216, 239 / 131072⟩
  | 7 => ⟨69143 / 8388608, 3875 / 16777216, 33341 / 8388608, 38075 / 16777216⟩
  | 8 => ⟨140589 / 16777216, 5233 / 16777216, 78235 / 16777216, 5797 / 2097152⟩
  | 9 => ⟨4477 / 524288, 429 / 1048576, 90511 / 16777216, 6945 / 2097152⟩
  | 10 => ⟨4573 / 524288, 8797 / 16777216, 25899 / 4194304, 65701 / 16777216⟩
  | 11 => ⟨74915 / 8388608, 11063 / 16777216, 117583 / 16777216, 38439 / 8388608⟩
  | 12 => ⟨153777 / 16777216, 13695 / 16777216, 132573 / 16777216, 89181 / 16777216⟩
  | _ => ⟨0, 0, 0, 0⟩
def difW : Nat → Rat
  | 0 => 0 / 1
  | 1 => 43 / 4194304
  | 2 => 153 / 4194304
  | 3 => 1329 / 16777216
  | 4 => 1167 / 8388608
  | 5 => 455 / 2097152
  | 6 => 5261 / 16777216
  | 7 => 3607 / 8388608
  | 8 => 9517 / 16777216
  | 9 => 381 / 524288
  | 10 => 477 / 524288
  | 11 => 9379 / 8388608
  | 12 => 22705 / 16777216
  | _ => 0
theorem dif_ok : chkD (22 / 100) difD difW 12 = true := by decide +kernel
end Go.Proofs.Ytlpahmefebgdlaa.Fx
/- The law FnSections: the second part of its run. No condition. -/
namespace Go.Proofs.Ytlpahmefebgdlaa.Fx
open Go Go.RowKit

theorem eMassT_ok : EOk Try.prog 13 (shS fun x => (isShare x, .tup [.fl .f32 (-x), .fl .f32 (one32 - x), .sb true])) := by
  intro args M r hr
  unfold shS at hr
  split at hr
  · rename_i x
    simp only [Option.some.injEq, Prod.mk.injEq] at hr
    obtain ⟨hq, rfl⟩ := hr
    have e1 : massA x = -x := by unfold massA; rw [hq]; rfl
    have e2 : massB x = one32 - x := by unfold massB; rw [hq]; rfl
    have e3 : massC x = true := by unfold massC; rw [hq]; rfl
    have := eMasses.ok [.c (.fl .f32 x)] M (.tup [.fl .f32 (massA x), .fl .f32 (massB x), .sb (massC x)]) rfl
    rw [e1, e2, e3] at this
    exact this
  · cases hr
def eMassT : Entry Try.prog := { f := 13, fn := shS fun x => (isShare x, .tup [.fl .f32 (-x), .fl .f32 (one32 - x), .sb true]), ok := eMassT_ok }
theorem eClosestAt_ok (z : Int) : EOk Try.prog 47 (shRun fun s h p k => (decide (k = 12) && (clQ s h p && decide ((cpOut s h p).1 = z)), .tup [.val (.int .i64 z), .fl .f32 (cpOut s h p).2, .sb true])) := by
  intro args M r hr
  unfold shRun at hr
  split at hr
  · rename_i s x y u v t k
    simp only [Option.some.injEq, Prod.mk.injEq, Bool.and_eq_true, decide_eq_true_eq] at hr
    obtain ⟨⟨rfl, h2, h3⟩, rfl⟩ := hr
    have := eClosest.ok [.c (.fl .f32 s), .agg [.cx .f32 x y, .cx .f32 u v], .c (.fl .f32 t), .c (.val (.int .i64 (.ofNat 12)))] M (.tup [.val (.int .i64 (cpOut s t ⟨x, y, u, v⟩).1), .fl .f32 (cpOut s t ⟨x, y, u, v⟩).2, .sb true]) (by show some (decide (12 = 12) && clQ s t ⟨x, y, u, v⟩, _) = _; rw [h2]; rfl)
    rw [h3] at this
    exact this
  · cases hr
def eClosestAt (z : Int) : Entry Try.prog := { f := 47, fn := shRun fun s h p k => (decide (k = 12) && (clQ s h p && decide ((cpOut s h p).1 = z)), .tup [.val (.int .i64 z), .fl .f32 (cpOut s h p).2, .sb true]), ok := eClosestAt_ok z }
def scFr2 (m : Value) (s : F32) : List AV := [.c .any, .c (.val m), .c .any, .c .any, .c .any, .c (.fl .f32 s), .c (.ptr 0 0)] ++ List.replicate 293 (.c .any)
def scMk2 : List Bool := [false, true, false, false, false, true, true] ++ List.replicate 293 false
def scLoop (s : F32) (d : F32) (T : Option AV) : List Sh → Option AV
  | [] => T
  | q :: L => bif cpq s q then bif lt (widen (cpd s q)) (widen d) then scNay else scLoop s d T L else none
theorem sc_two0 (W : World) (o : Option Nat) (m : Value) (s : F32) (n : Nat) (p : Sh) (cr : List AC) (q0 q1 q2 q3 q4 q5 q6 q7 q8 q9 q10 q11 q12 : Sh) (T : List AV → List (List AC) → Option AV) : runU2 Try.prog [eMassT, eClosestAt 0, eApart] [] [] (G := Ext W) [] (slLp o) 23 32 scMk2 1 Try.f7 T (slFr m s n n 13) [p.cells, cr, encTr [q0, q1, q2, q3, q4, q5, q6, q7, q8, q9, q10, q11, q12]] =
    bif isShare s then bif clQ s scH p && decide ((cpOut s scH p).1 = 0) then bif ((n : Int) != (n : Int)) then scNay else bif cpq s q0 then bif ne (widen (cpd s q0)) (widen (cpOut s scH p).2) then scNay else
      scLoop s (cpOut s scH p).2 (T (scFr2 m s) [p.cells]) [q0, q1, q2, q3, q4, q5, q6, q7, q8, q9, q10, q11, q12] else none else none else none := by kernel_rfl
theorem sc_two1 (W : World) (o : Option Nat) (m : Value) (s : F32) (n : Nat) (p : Sh) (cr : List AC) (q0 q1 q2 q3 q4 q5 q6 q7 q8 q9 q10 q11 q12 : Sh) (T : List AV → List (List AC) → Option AV) : runU2 Try.prog [eMassT, eClosestAt 1, eApart] [] [] (G := Ext W) [] (slLp o) 23 32 scMk2 1 Try.f7 T (slFr m s n n 13) [p.cells, cr, encTr [q0, q1, q2, q3, q4, q5, q6, q7, q8, q9, q10, q11, q12]] =
    bif isShare s then bif clQ s scH p && decide ((cpOut s scH p).1 = 1) then bif ((n : Int) != (n : Int)) then scNay else bif cpq s q1 then bif ne (widen (cpd s q1)) (widen (cpOut s scH p).2) then scNay else
      scLoop s (cpOut s scH p).2 (T (scFr2 m s) [p.cells]) [q0, q1, q2, q3, q4, q5, q6, q7, q8, q9, q10, q11, q12] else none else none else none := by kernel_rfl
theorem sc_two2 (W : World) (o : Option Nat) (m : Value) (s : F32) (n : Nat) (p : Sh) (cr : List AC) (q0 q1 q2 q3 q4 q5 q6 q7 q8 q9 q10 q11 q12 : Sh) (T : List AV → List (List AC) → Option AV) : runU2 Try.prog [eMassT, eClosestAt 2, eApart] [] [] (G := Ext W) [] (slLp o) 23 32 scMk2 1 Try.f7 T (slFr m s n n 13) [p.cells, cr, encTr [q0, q1, q2, q3, q4, q5, q6, q7, q8, q9, q10, q11, q12]] =
    bif isShare s then bif clQ s scH p && decide ((cpOut s scH p).1 = 2) then bif ((n : Int) != (n : Int)) then scNay else bif cpq s q2 then bif ne (widen (cpd s q2)) (widen (cpOut s scH p).2) then scNay else
      scLoop s (cpOut s scH p).2 (T (scFr2 m s) [p.cells]) [q0, q1, q2, q3, q4, q5, q6, q7, q8, q9, q10, q11, q12] else none else none else none := by kernel_rfl
theorem sc_two3 (W : World) (o : Option Nat) (m : Value) (s : F32) (n : Nat) (p : Sh) (cr : List AC) (q0 q1 q2 q3 q4 q5 q6 q7 q8 q9 q10 q11 q12 : Sh) (T : List AV → List (List AC) → Option AV) : runU2 Try.prog [eMassT, eClosestAt 3, eApart] [] [] (G := Ext W) [] (slLp o) 23 32 scMk2 1 Try.f7 T (slFr m s n n 13) [p.cells, cr, encTr [q0, q1, q2, q3, q4, q5, q6, q7, q8, q9, q10, q11, q12]] =
    bif isShare s then bif clQ s scH p && decide ((cpOut s scH p).1 = 3) then bif ((n : Int) != (n : Int)) then scNay else bif cpq s q3 then bif ne (widen (cpd s q3)) (widen (cpOut s scH p).2) then scNay else
      scLoop s (cpOut s scH p).2 (T (scFr2 m s) [p.cells]) [q0, q1, q2, q3, q4, q5, q6, q7, q8, q9, q10, q11, q12] else none else none else none := by kernel_rfl
theorem sc_two4 (W : World) (o : Option Nat) (m : Value) (s : F32) (n : Nat) (p : Sh) (cr : List AC) (q0 q1 q2 q3 q4 q5 q6 q7 q8 q9 q10 q11 q12 : Sh) (T : List AV → List (List AC) → Option AV) : runU2 Try.prog [eMassT, eClosestAt 4, eApart] [] [] (G := Ext W) [] (slLp o) 23 32 scMk2 1 Try.f7 T (slFr m s n n 13) [p.cells, cr, encTr [q0, q1, q2, q3, q4, q5, q6, q7, q8, q9, q10, q11, q12]] =
    bif isShare s then bif clQ s scH p && decide ((cpOut s scH p).1 = 4) then bif ((n : Int) != (n : Int)) then scNay else bif cpq s q4 then bif ne (widen (cpd s q4)) (widen (cpOut s scH p).2) then scNay else
      scLoop s (cpOut s scH p).2 (T (scFr2 m s) [p.cells]) [q0, q1, q2, q3, q4, q5, q6, q7, q8, q9, q10, q11, q12] else none else none else none := by kernel_rfl
theorem sc_two5 (W : World) (o : Option Nat) (m : Value) (s : F32) (n : Nat) (p : Sh) (cr : List AC) (q0 q1 q2 q3 q4 q5 q6 q7 q8 q9 q10 q11 q12 : Sh) (T : List AV → List (List AC) → Option AV) : runU2 Try.prog [eMassT, eClosestAt 5, eApart] [] [] (G := Ext W) [] (slLp o) 23 32 scMk2 1 Try.f7 T (slFr m s n n 13) [p.cells, cr, encTr [q0, q1, q2, q3, q4, q5, q6, q7, q8, q9, q10, q11, q12]] =
    bif isShare s then bif clQ s scH p && decide ((cpOut s scH p).1 = 5) then bif ((n : Int) != (n : Int)) then scNay else bif cpq s q5 then bif ne (widen (cpd s q5)) (widen (cpOut s scH p).2) then scNay else
      scLoop s (cpOut s scH p).2 (T (scFr2 m s) [p.cells]) [q0, q1, q2, q3, q4, q5, q6, q7, q8, q9, q10, q11, q12] else none else none else none := by kernel_rfl
theorem sc_two6 (W : World) (o : Option Nat) (m : Value) (s : F32) (n : Nat) (p : Sh) (cr : List AC) (q0 q1 q2 q3 q4 q5 q6 q7 q8 q9 q10 q11 q12 : Sh) (T : List AV → List (List AC) → Option AV) : runU2 Try.prog [eMassT, eClosestAt 6, eApart] [] [] (G := Ext W) [] (slLp o) 23 32 scMk2 1 Try.f7 T (slFr m s n n 13) [p.cells, cr, encTr [q0, q1, q2, q3, q4, q5, q6, q7, q8, q9, q10, q11, q12]] =
    bif isShare s then bif clQ s scH p && decide ((cpOut s scH p).1 = 6) then bif ((n : Int) != (n : Int)) then scNay else bif cpq s q6 then bif ne (widen (cpd s q6)) (widen (cpOut s scH p).2) then scNay else
      scLoop s (cpOut s scH p).2 (T (scFr2 m s) [p.cells]) [q0, q1, q2, q3, q4, q5, q6, q7, q8, q9, q10, q11, q12] else none else none else none := by kernel_rfl
theorem sc_two7 (W : World) (o : Option Nat) (m : Value) (s : F32) (n : Nat) (p : Sh) (cr : List AC) (q0 q1 q2 q3 q4 q5 q6 q7 q8 q9 q10 q11 q12 : Sh) (T : List AV → List (List AC) → Option AV) : runU2 Try.prog [eMassT, eClosestAt 7, eApart] [] [] (G := Ext W) [] (slLp o) 23 32 scMk2 1 Try.f7 T (slFr m s n n 13) [p.cells, cr, encTr [q0, q1, q2, q3, q4, q5, q6, q7, q8, q9, q10, q11, q12]] =
    bif isShare s then bif clQ s scH p && decide ((cpOut s scH p).1 = 7) then bif ((n : Int) != (n : Int)) then scNay else bif cpq s q7 then bif ne (widen (cpd s q7)) (widen (cpOut s scH p).2) then scNay else
      scLoop s (cpOut s scH p).2 (T (scFr2 m s) [p.cells]) [q0, q1, q2, q3, q4, q5, q6, q7, q8, q9, q10, q11, q12] else none else none else none := by kernel_rfl
theorem sc_two8 (W : World) (o : Option Nat) (m : Value) (s : F32) (n : Nat) (p : Sh) (cr : List AC) (q0 q1 q2 q3 q4 q5 q6 q7 q8 q9 q10 q11 q12 : Sh) (T : List AV → List (List AC) → Option AV) : runU2 Try.prog [eMassT, eClosestAt 8, eApart] [] [] (G := Ext W) [] (slLp o) 23 32 scMk2 1 Try.f7 T (slFr m s n n 13) [p.cells, cr, encTr [q0, q1, q2, q3, q4, q5, q6, q7, q8, q9, q10, q11, q12]] =
    bif isShare s then bif clQ s scH p && decide ((cpOut s scH p).1 = 8) then bif ((n : Int) != (n : Int)) then scNay else bif cpq s q8 then bif ne (widen (cpd s q8)) (widen (cpOut s scH p).2) then scNay else
      scLoop s (cpOut s scH p).2 (T (scFr2 m s) [p.cells]) [q0, q1, q2, q3, q4, q5, q6, q7, q8, q9, q10, q11, q12] else none else none else none := by kernel_rfl
theorem sc_two9 (W : World) (o : Option Nat) (m : Value) (s : F32) (n : Nat) (p : Sh) (cr : List AC) (q0 q1 q2 q3 q4 q5 q6 q7 q8 q9 q10 q11 q12 : Sh) (T : List AV → List (List AC) → Option AV) : runU2 Try.prog [eMassT, eClosestAt 9, eApart] [] [] (G := Ext W) [] (slLp o) 23 32 scMk2 1 Try.f7 T (slFr m s n n 13) [p.cells, cr, encTr [q0, q1, q2, q3, q4, q5, q6, q7, q8, q9, q10, q11, q12]] =
    bif isShare s then bif clQ s scH p && decide ((cpOut s scH p).1 = 9) then bif ((n : Int) != (n : Int)) then scNay else bif cpq s q9 then bif ne (widen (cpd s q9)) (widen (cpOut s scH p).2) then scNay else
      scLoop s (cpOut s scH p).2 (T (scFr2 m s) [p.cells]) [q0, q1, q2, q3, q4, q5, q6, q7, q8, q9, q10, q11, q12] else none else none else none := by kernel_rfl
theorem sc_two10 (W : World) (o : Option Nat) (m : Value) (s : F32) (n : Nat) (p : Sh) (cr : List AC) (q0 q1 q2 q3 q4 q5 q6 q7 q8 q9 q10 q11 q12 : Sh) (T : List AV → List (List AC) → Option AV) : runU2 Try.prog [eMassT, eClosestAt 10, eApart] [] [] (G := Ext W) [] (slLp o) 23 32 scMk2 1 Try.f7 T (slFr m s n n 13) [p.cells, cr, encTr [q0, q1, q2, q3, q4, q5, q6, q7, q8, q9, q10, q11, q12]] =
    bif isShare s then bif clQ s scH p && decide ((cpOut s scH p).1 = 10) then bif ((n : Int) != (n : Int)) then scNay else bif cpq s q10 then bif ne (widen (cpd s q10)) (widen (cpOut s scH p).2) then scNay else
      scLoop s (cpOut s scH p).2 (T (scFr2 m s) [p.cells]) [q0, q1, q2, q3, q4, q5, q6, q7, q8, q9, q10, q11, q12] else none else none else none := by kernel_rfl
theorem sc_two11 (W : World) (o : Option Nat) (m : Value) (s : F32) (n : Nat) (p : Sh) (cr : List AC) (q0 q1 q2 q3 q4 q5 q6 q7 q8 q9 q10 q11 q12 : Sh) (T : List AV → List (List AC) → Option AV) : runU2 Try.prog [eMassT, eClosestAt 11, eApart] [] [] (G := Ext W) [] (slLp o) 23 32 scMk2 1 Try.f7 T (slFr m s n n 13) [p.cells, cr, encTr [q0, q1, q2, q3, q4, q5, q6, q7, q8, q9, q10, q11, q12]] =
    bif isShare s then bif clQ s scH p && decide ((cpOut s scH p).1 = 11) then bif ((n : Int) != (n : Int)) then scNay else bif cpq s q11 then bif ne (widen (cpd s q11)) (widen (cpOut s scH p).2) then scNay else
      scLoop s (cpOut s scH p).2 (T (scFr2 m s) [p.cells]) [q0, q1, q2, q3, q4, q5, q6, q7, q8, q9, q10, q11, q12] else none else none else none := by kernel_rfl
theorem sc_two12 (W : World) (o : Option Nat) (m : Value) (s : F32) (n : Nat) (p : Sh) (cr : List AC) (q0 q1 q2 q3 q4 q5 q6 q7 q8 q9 q10 q11 q12 : Sh) (T : List AV → List (List AC) → Option AV) : runU2 Try.prog [eMassT, eClosestAt 12, eApart] [] [] (G := Ext W) [] (slLp o) 23 32 scMk2 1 Try.f7 T (slFr m s n n 13) [p.cells, cr, encTr [q0, q1, q2, q3, q4, q5, q6, q7, q8, q9, q10, q11, q12]] =
    bif isShare s then bif clQ s scH p && decide ((cpOut s scH p).1 = 12) then bif ((n : Int) != (n : Int)) then scNay else bif cpq s q12 then bif ne (widen (cpd s q12)) (widen (cpOut s scH p).2) then scNay else
      scLoop s (cpOut s scH p).2 (T (scFr2 m s) [p.cells]) [q0, q1, q2, q3, q4, q5, q6, q7, q8, q9, q10, q11, q12] else none else none else none := by kernel_rfl
end Go.Proofs.Ytlpahmefebgdlaa.Fx
/- The law FnSections: crossings and closest passes. No condition. -/
namespace Go.Proofs.Ytlpahmefebgdlaa.Fx
open Go

theorem fmin_hasS {x y : F32} {A B : Rat} (hx : HasS x A) (hy : HasS y B) : ∃ v, HasS (fmin x y) v ∧ v ≤ A ∧ v ≤ B ∧ (v = A ∨ v = B) := by
  obtain ⟨z, w, e, ho, rfl, rfl⟩ := ordS_has hx hy
  cases x with
  | none => obtain ⟨_, _, _, ⟨r, h, _⟩, _⟩ := hx; cases h
  | some a =>
    cases y with
    | none => obtain ⟨_, _, _, ⟨r, h, _⟩, _⟩ := hy; cases h
    | some b =>
      rw [ord_two] at ho
      rw [fmin_some, ho]
      rcases Int.lt_trichotomy z w with h | h | h
      · have hl := (wi_lt e).2 h
        rw [show compare z w = .lt from Int.compare_eq_lt.2 h]
        exact ⟨_, hx, by grind, by grind, .inl rfl⟩
      · subst h
        rw [show compare z z = .eq from Int.compare_eq_eq.2 rfl]
        show ∃ v, HasS (some (if (FloatKind.f32.decode a).neg then a else b)) v ∧ _
        split
        · exact ⟨_, hx, by grind, by grind, .inl rfl⟩
        · exact ⟨_, hy, by grind, by grind, .inl rfl⟩
      · have hl := (wi_lt e).2 h
        rw [show compare z w = .gt from Int.compare_eq_gt.2 h]
        exact ⟨_, hy, by grind, by grind, .inr rfl⟩
theorem fmax_hasS {x y : F32} {A B : Rat} (hx : HasS x A) (hy : HasS y B) : ∃ v, HasS (fmax x y) v ∧ A ≤ v ∧ B ≤ v ∧ (v = A ∨ v = B) := by
  obtain ⟨z, w, e, ho, rfl, rfl⟩ := ordS_has hx hy
  cases x with
  | none => obtain ⟨_, _, _, ⟨r, h, _⟩, _⟩ := hx; cases h
  | some a =>
    cases y with
    | none => obtain ⟨_, _, _, ⟨r, h, _⟩, _⟩ := hy; cases h
    | some b =>
      rw [ord_two] at ho
      rw [fmax_some, ho]
      rcases Int.lt_trichotomy z w with h | h | h
      · have hl := (wi_lt e).2 h
        rw [show compare z w = .lt from Int.compare_eq_lt.2 h]
        exact ⟨_, hy, by grind, by grind, .inr rfl⟩
      · subst h
        rw [show compare z z = .eq from Int.compare_eq_eq.2 rfl]
        show ∃ v, HasS (some (if (FloatKind.f32.decode a).neg then b else a)) v ∧ _
        split
        · exact ⟨_, hy, by grind, by grind, .inl rfl⟩
        · exact ⟨_, hx, by grind, by grind, .inl rfl⟩
      · have hl := (wi_lt e).2 h
        rw [show compare z w = .gt from Int.compare_eq_gt.2 h]
        exact ⟨_, hx, by grind, by grind, .inl rfl⟩
theorem mil_has : Has mil (1152921504606847 / 1152921504606846976) := ⟨false, 4611686018427388, -62, ⟨4562254508917369340, rfl, by decide⟩, by decide +kernel⟩
/-- A ship on its flight. -/
structure Fl2 (a : Sh) (P : V4) : Prop where
  x : HasS a.x P.x
  y : HasS a.y P.y
  u : HasS a.u P.u
  v : HasS a.v P.v
  r : InR (197 / 100) 5 (-3 / 10) (3 / 10) P
theorem cross_has {a b : Sh} {P P' : V4} (ha : Fl2 a P) (hb : Fl2 b P') (hy : P.y < 0) (hy' : 0 ≤ P'.y) (up : P.y + 1 / 1000 ≤ P'.y) :
    crT a b = true ∧ crFin a b = true ∧ slLow (crX a b) a b = false ∧ slHigh (crX a b) a b = false := by
  obtain ⟨ax, ay, au, av, x1, x2, y1, y2, u1, u2, v1, v2⟩ := ha
  obtain ⟨bx, by', bu, bv, x1', x2', y1', y2', u1', u2', v1', v2'⟩ := hb
  obtain ⟨D, hD, D1, D2⟩ := subE 0 1 (1 / 16777216) (by decide +kernel) (by decide +kernel) (by decide) (by decide) ay by' (by grind) (by grind)
  obtain ⟨r, hr⟩ : ∃ r : Rat, r * D = 1 := ⟨D⁻¹, by rw [Rat.mul_comm]; exact Rat.mul_inv_cancel D (by grind)⟩
  have r0 : r ≤ 0 := by
    refine Rat.not_lt.1 fun h => ?_
    have := Rat.mul_nonneg (show 0 ≤ r by grind) (show 0 ≤ -D by grind)
    grind
  have c0 : 0 ≤ P.y * r := by
    have := Rat.mul_nonneg (show 0 ≤ -P.y by grind) (show 0 ≤ -r by grind)
    grind
  have c1 : P.y * r ≤ 10001 / 10000 := by
    have := Rat.mul_le_mul_of_nonneg_right (show -P.y ≤ 10001 / 10000 * -D by grind) (show 0 ≤ -r by grind)
    have e : 10001 / 10000 * -D * -r = 10001 / 10000 * (r * D) := by grind
    rw [e, hr] at this
    grind
  obtain ⟨q, hq, q1, q2⟩ := divE 1 2 (1 / 2097152) (by decide +kernel) (by decide +kernel) (by decide) (by decide) ay hD (c := P.y * r) (by grind) (by grind) (by grind) (by grind)
  obtain ⟨w, hw, w1, w2⟩ := subE 2 4 (1 / 4194304) (by decide +kernel) (by decide +kernel) (by decide) (by decide) bx ax (by grind) (by grind)
  have qw := ab_mul (a := q) (b := w) (A := 1001 / 1000) (B := 304 / 100) (by grind) (by grind) (by grind) (by grind)
  obtain ⟨t, ht, t1, t2⟩ := mulE 2 4 (1 / 4194304) (by decide +kernel) (by decide +kernel) (by decide) (by decide) hq hw (by grind) (by grind)
  obtain ⟨X, hX, X1, X2⟩ := addE 4 16 (1 / 1048576) (by decide +kernel) (by decide +kernel) (by decide) (by decide) ax ht (by grind) (by grind)
  obtain ⟨w', hw', w1', w2'⟩ := subE 4 16 (1 / 1048576) (by decide +kernel) (by decide +kernel) (by decide) (by decide) bu au (by grind) (by grind)
  have qw' := ab_mul (a := q) (b := w') (A := 1001 / 1000) (B := 161 / 10) (by grind) (by grind) (by grind) (by grind)
  obtain ⟨t', ht', t1', t2'⟩ := mulE 5 32 (1 / 524288) (by decide +kernel) (by decide +kernel) (by decide) (by decide) hq hw' (by grind) (by grind)
  obtain ⟨U, hU, -, -⟩ := addE 5 32 (1 / 524288) (by decide +kernel) (by decide +kernel) (by decide) (by decide) au ht' (by grind) (by grind)
  obtain ⟨mn, hmn, n1, n2, n3⟩ := fmin_hasS ax bx
  obtain ⟨mx, hmx, k1, k2, k3⟩ := fmax_hasS ax bx
  have e3 : (2 : Rat) ^ (3 : Int) = 8 := by decide +kernel
  have e4 : (2 : Rat) ^ ((3 : Int) - 53) = 1 / 1125899906842624 := by decide +kernel
  obtain ⟨lo, hlo, l1, l2⟩ := sub_has (E := 3) (widen_has hmn) mil_has (by rw [e3]; grind) (by rw [e3]; grind) (by decide) (by decide)
  obtain ⟨hi, hhi, h1, h2⟩ := add_has (E := 3) (widen_has hmx) mil_has (by rw [e3]; grind) (by rw [e3]; grind) (by decide) (by decide)
  rw [e4] at l1 l2 h1 h2
  -- between
  have bt : mn - 1 / 2000 ≤ P.x + q * w ∧ P.x + q * w ≤ mx + 1 / 2000 := by
    by_cases hw0 : 0 ≤ w
    · have g1 := Rat.mul_le_mul_of_nonneg_right (show q ≤ 1 + 11 / 100000 by grind) hw0
      have g2 := Rat.mul_le_mul_of_nonneg_right (show -(1 / 1000000) ≤ q by grind) hw0
      generalize q * w = qw at *
      constructor <;> grind
    · have g1 := Rat.mul_le_mul_of_nonneg_right (show q ≤ 1 + 11 / 100000 by grind) (show 0 ≤ -w by grind)
      have g2 := Rat.mul_le_mul_of_nonneg_right (show -(1 / 1000000) ≤ q by grind) (show 0 ≤ -w by grind)
      have e : q * -w = -(q * w) := by grind
      rw [e] at g1 g2
      generalize q * w = qw at *
      constructor <;> grind
  refine ⟨?_, ?_, ?_, ?_⟩
  · unfold crT
    rw [ltS_has ay zero_hasS, geS_has by' zero_hasS, decide_eq_true hy, decide_eq_true hy']; rfl
  · have e1 : HasS (crX a b) X := hX
    have e2 : HasS (crU a b) U := hU
    unfold crFin cfin
    rw [hasS_fin e1, hasS_fin e2]; rfl
  · have e1 : HasS (crX a b) X := hX
    unfold slLow
    rw [lt_has (widen_has e1) hlo]
    exact decide_eq_false (by generalize q * w = qw at *; grind)
  · have e1 : HasS (crX a b) X := hX
    unfold slHigh
    rw [gt_has (widen_has e1) hhi]
    exact decide_eq_false (by generalize q * w = qw at *; grind)
/-- Ships that rise. -/
def Chain : List Sh → Prop
  | a :: b :: L => (∃ P P', Fl2 a P ∧ Fl2 b P' ∧ P.y + 1 / 1000 ≤ P'.y) ∧ Chain (b :: L)
  | _ => True
theorem no_after : ∀ (L : List Sh) (b : Sh), Chain (b :: L) → lt b.y (c32 0) = false → crNo (b :: L) = true
  | [], _, _, _ => rfl
  | c :: L, b, h, hb => by
    obtain ⟨⟨P, P', hP, hP', up⟩, h2⟩ := h
    have hc : lt c.y (c32 0) = false := by
      rw [ltS_has hP.y zero_hasS, decide_eq_false_iff_not] at hb
      rw [ltS_has hP'.y zero_hasS]
      exact decide_eq_false (by grind)
    show (!(crT b c) && crNo (c :: L)) = true
    rw [no_after L c h2 hc]
    unfold crT
    rw [hb]; rfl
theorem chain_cross : ∀ L : List Sh, Chain L → crNo L = true ∨ ∃ j, crOnly j L = true ∧ slOnly (cxX (crPair j L)) j L = true
  | [], _ => .inl rfl
  | [_], _ => .inl rfl
  | a :: b :: L, h => by
    have h' := h
    obtain ⟨⟨P, P', hP, hP', up⟩, h2⟩ := h
    cases ht : crT a b with
    | true =>
      have ht' := ht
      unfold crT at ht
      rw [Bool.and_eq_true, ltS_has hP.y zero_hasS, geS_has hP'.y zero_hasS, decide_eq_true_eq, decide_eq_true_eq] at ht
      obtain ⟨g1, g2, g3, g4⟩ := cross_has hP hP' ht.1 ht.2 up
      have hb : lt b.y (c32 0) = false := by rw [ltS_has hP'.y zero_hasS]; exact decide_eq_false (by grind)
      have hn := no_after L b h2 hb
      refine .inr ⟨0, ?_, ?_⟩
      · show (crT a b && (crFin a b && crNo (b :: L))) = true
        rw [g1, g2, hn]; rfl
      · show (crT a b && (!(slLow (crX a b) a b) && (!(slHigh (crX a b) a b) && crNo (b :: L)))) = true
        rw [g1, g3, g4, hn]; rfl
    | false =>
      rcases chain_cross (b :: L) h2 with hn | ⟨j, h3, h4⟩
      · refine .inl ?_
        show (!(crT a b) && crNo (b :: L)) = true
        rw [ht, hn]; rfl
      · refine .inr ⟨j + 1, ?_, ?_⟩
        · show (!(crT a b) && crOnly j (b :: L)) = true
          rw [ht, h3]; rfl
        · show (!(crT a b) && slOnly (cxX (crPair j (b :: L))) j (b :: L)) = true
          rw [ht, h4]; rfl
/-- A ship's place alone. -/
def plc (q : Sh) : Sh := ⟨q.x, q.y, c32 0, c32 0⟩
theorem crNo_plc : ∀ L : List Sh, crNo (L.map plc) = crNo L
  | [] => rfl
  | [_] => rfl
  | a :: b :: L => by
    have := crNo_plc (b :: L)
    show (!(crT (plc a) (plc b)) && crNo ((b :: L).map plc)) = (!(crT a b) && crNo (b :: L))
    rw [this]; rfl
theorem slOnly_plc (x : F32) : ∀ (L : List Sh) (j : Nat), slOnly x j (L.map plc) = slOnly x j L
  | [], 0 => rfl
  | [], _ + 1 => rfl
  | [_], 0 => rfl
  | [_], _ + 1 => rfl
  | a :: b :: L, 0 => by
    have := crNo_plc (b :: L)
    show (crT (plc a) (plc b) && (!(slLow x (plc a) (plc b)) && (!(slHigh x (plc a) (plc b)) && crNo ((b :: L).map plc)))) = (crT a b && (!(slLow x a b) && (!(slHigh x a b) && crNo (b :: L))))
    rw [this]; rfl
  | a :: b :: L, j + 1 => by
    have := slOnly_plc x (b :: L) j
    show (!(crT (plc a) (plc b)) && slOnly x j ((b :: L).map plc)) = (!(crT a b) && slOnly x j (b :: L))
    rw [this]; rfl
-- closest passes
theorem cpAll_of (s : F32) : ∀ L : List Sh, (∀ q ∈ L, cpq s q = true) → cpAll s L = true
  | [], _ => rfl
  | p :: L, h => by
    show (cpq s p && cpAll s L) = true
    rw [h p (by simp), cpAll_of s L fun q hq => h q (by simp [hq])]; rfl
theorem hasS_inj {x : F32} {a b : Rat} (h : HasS x a) (h' : HasS x b) : a = b := has_inj (widen_has h) (widen_has h')
theorem cpZ_spec (s : F32) : ∀ (L : List Sh) (i z : Int) (b : F32) (Rb : Rat), 0 ≤ i → 0 ≤ z → HasS b Rb → (∀ q ∈ L, ∃ R, HasS (cpd s q) R) →
    ∃ R', HasS (cpZ s i z b L).2 R' ∧ R' ≤ Rb ∧ (∀ q ∈ L, ∀ R, HasS (cpd s q) R → R' ≤ R) ∧
      (((cpZ s i z b L).1 = z ∧ (cpZ s i z b L).2 = b) ∨ ∃ (k : Nat) (q : Sh), L[k]? = some q ∧ (cpZ s i z b L).1 = i + k ∧ (cpZ s i z b L).2 = cpd s q)
  | [], i, z, b, Rb, _, _, hb, _ => ⟨Rb, hb, Rat.le_refl, fun q hq => by simp at hq, .inl ⟨rfl, rfl⟩⟩
  | p :: L, i, z, b, Rb, hi, hz, hb, h => by
    obtain ⟨Rp, hp⟩ := h p (by simp)
    have hL : ∀ q ∈ L, ∃ R, HasS (cpd s q) R := fun q hq => h q (by simp [hq])
    have hc : cpC s z b p = decide (Rp < Rb) := by
      unfold cpC
      rw [decide_eq_false (by omega), ltS_has hp hb]; rfl
    by_cases hlt : Rp < Rb
    · rw [cpZ_yes s i z b p L (by rw [hc]; exact decide_eq_true hlt)]
      obtain ⟨R', g1, g2, g3, g4⟩ := cpZ_spec s L (i + 1) i (cpd s p) Rp (by omega) hi hp hL
      refine ⟨R', g1, by grind, fun q hq R hR => ?_, ?_⟩
      · rcases List.mem_cons.1 hq with rfl | hq
        · rw [hasS_inj hR hp]; exact g2
        · exact g3 q hq R hR
      · rcases g4 with ⟨g4, g5⟩ | ⟨k, q, g4, g5, g6⟩
        · exact .inr ⟨0, p, rfl, by rw [g4]; omega, g5⟩
        · exact .inr ⟨k + 1, q, by simpa using g4, by rw [g5]; omega, g6⟩
    · rw [cpZ_no s i z b p L (by rw [hc]; exact decide_eq_false hlt)]
      obtain ⟨R', g1, g2, g3, g4⟩ := cpZ_spec s L (i + 1) z b Rb (by omega) hz hb hL
      refine ⟨R', g1, g2, fun q hq R hR => ?_, ?_⟩
      · rcases List.mem_cons.1 hq with rfl | hq
        · rw [hasS_inj hR hp]; grind
        · exact g3 q hq R hR
      · rcases g4 with ⟨g4, g5⟩ | ⟨k, q, g4, g5, g6⟩
        · exact .inl ⟨g4, g5⟩
        · exact .inr ⟨k + 1, q, by simpa using g4, by rw [g5]; omega, g6⟩
end Go.Proofs.Ytlpahmefebgdlaa.Fx
/- Ships part slowly: logarithms near 1. No condition. -/
namespace Go.Proofs.Ytlpahmefebgdlaa.Fx
open Go

theorem k15_has : Has k15 (3 / 2) := ⟨false, 3 * 2 ^ 51, -52, ⟨4609434218613702656, rfl, by decide⟩, by decide +kernel⟩
theorem k075_has : Has k075 (3 / 4) := ⟨false, 3 * 2 ^ 51, -53, ⟨4604930618986332160, rfl, by decide⟩, by decide +kernel⟩
theorem ln2_has : Has ln2 (6243314768165359 / 9007199254740992) := ⟨false, 6243314768165359, -53, ⟨4604418534313441775, rfl, by decide⟩, by decide +kernel⟩
theorem logStep_has {u q : F64} {k : Int} {U Q k' : Rat} (hk : Has (ki k) k') (k1 : 1 ≤ k') (hu : Has u U) (hq : Has q Q) (u1 : -(1 / 50) ≤ U) (u2 : U ≤ 1 / 50) (q1 : -2 ≤ Q) (q2 : Q ≤ 2) :
    ∃ v, Has (logStep u q k) v ∧ -2 ≤ v ∧ v ≤ 2 := by
  obtain ⟨c, hc⟩ : ∃ c : Rat, c * k' = 1 := ⟨k'⁻¹, by rw [Rat.mul_comm]; exact Rat.mul_inv_cancel k' (by grind)⟩
  have c0 : 0 ≤ c := by
    refine Rat.not_lt.1 fun h => ?_
    have := Rat.mul_nonneg (show 0 ≤ -c by grind) (show 0 ≤ k' by grind)
    grind
  have c1 : c ≤ 1 := by
    have := Rat.mul_le_mul_of_nonneg_left k1 c0
    grind
  have e1 : (2 : Rat) ^ (0 : Int) = 1 := by decide +kernel
  have e2 : (2 : Rat) ^ ((0 : Int) - 51) = 1 / 2251799813685248 := by decide +kernel
  have e3 : (2 : Rat) ^ ((0 : Int) - 53) = 1 / 9007199254740992 := by decide +kernel
  have e4 : (2 : Rat) ^ (1 : Int) = 2 := by decide +kernel
  have e5 : (2 : Rat) ^ ((1 : Int) - 53) = 1 / 4503599627370496 := by decide +kernel
  obtain ⟨a, ha, a1, a2⟩ := div_has (E := 0) (c := c) one_has hk (by grind) (by grind) (by rw [e1]; grind) (by rw [e1]; grind) (by decide) (by decide)
  have m := ab_mul (a := U) (b := Q) (A := 1 / 50) (B := 2) u1 u2 q1 q2
  obtain ⟨b, hb, b1, b2⟩ := mul_has (E := 0) hu hq (by rw [e1]; grind) (by rw [e1]; grind) (by decide) (by decide)
  rw [e2] at a1 a2
  rw [e3] at b1 b2
  obtain ⟨v, hv, v1, v2⟩ := add_has (E := 1) ha hb (by rw [e4]; grind) (by rw [e4]; grind) (by decide) (by decide)
  rw [e5] at v1 v2
  exact ⟨v, hv, by grind, by grind⟩
theorem lg1_has : Has (ki 1) 1 := ⟨false, 1 * 2 ^ 52, -52, ⟨_, rfl, by kernel_rfl⟩, by decide +kernel⟩
theorem lg3_has : Has (ki 3) 3 := ⟨false, 3 * 2 ^ 51, -51, ⟨_, rfl, by kernel_rfl⟩, by decide +kernel⟩
theorem lg5_has : Has (ki 5) 5 := ⟨false, 5 * 2 ^ 50, -50, ⟨_, rfl, by kernel_rfl⟩, by decide +kernel⟩
theorem lg7_has : Has (ki 7) 7 := ⟨false, 7 * 2 ^ 50, -50, ⟨_, rfl, by kernel_rfl⟩, by decide +kernel⟩
theorem lg9_has : Has (ki 9) 9 := ⟨false, 9 * 2 ^ 49, -49, ⟨_, rfl, by kernel_rfl⟩, by decide +kernel⟩
theorem lg11_has : Has (ki 11) 11 := ⟨false, 11 * 2 ^ 49, -49, ⟨_, rfl, by kernel_rfl⟩, by decide +kernel⟩
theorem lg13_has : Has (ki 13) 13 := ⟨false, 13 * 2 ^ 49, -49, ⟨_, rfl, by kernel_rfl⟩, by decide +kernel⟩
theorem lg15_has : Has (ki 15) 15 := ⟨false, 15 * 2 ^ 49, -49, ⟨_, rfl, by kernel_rfl⟩, by decide +kernel⟩
theorem lg17_has : Has (ki 17) 17 := ⟨false, 17 * 2 ^ 48, -48, ⟨_, rfl, by kernel_rfl⟩, by decide +kernel⟩
theorem lg19_has : Has (ki 19) 19 := ⟨false, 19 * 2 ^ 48, -48, ⟨_, rfl, by kernel_rfl⟩, by decide +kernel⟩
theorem lg21_has : Has (ki 21) 21 := ⟨false, 21 * 2 ^ 48, -48, ⟨_, rfl, by kernel_rfl⟩, by decide +kernel⟩
theorem lg23_has : Has (ki 23) 23 := ⟨false, 23 * 2 ^ 48, -48, ⟨_, rfl, by kernel_rfl⟩, by decide +kernel⟩
theorem lg25_has : Has (ki 25) 25 := ⟨false, 25 * 2 ^ 48, -48, ⟨_, rfl, by kernel_rfl⟩, by decide +kernel⟩
theorem logPoly_has {u : F64} {U : Rat} (hu : Has u U) (u1 : -(1 / 50) ≤ U) (u2 : U ≤ 1 / 50) : ∃ v, Has (logPoly u) v ∧ -2 ≤ v ∧ v ≤ 2 := by
  unfold logPoly
  simp only [List.foldl_cons, List.foldl_nil]
  obtain ⟨q25, h25, l25, r25⟩ := logStep_has lg25_has (by decide +kernel) hu zero_has u1 u2 (by decide +kernel) (by decide +kernel)
  obtain ⟨q23, h23, l23, r23⟩ := logStep_has lg23_has (by decide +kernel) hu h25 u1 u2 l25 r25
  obtain ⟨q21, h21, l21, r21⟩ := logStep_has lg21_has (by decide +kernel) hu h23 u1 u2 l23 r23
  obtain ⟨q19, h19, l19, r19⟩ := logStep_has lg19_has (by decide +kernel) hu h21 u1 u2 l21 r21
  obtain ⟨q17, h17, l17, r17⟩ := logStep_has lg17_has (by decide +kernel) hu h19 u1 u2 l19 r19
  obtain ⟨q15, h15, l15, r15⟩ := logStep_has lg15_has (by decide +kernel) hu h17 u1 u2 l17 r17
  obtain ⟨q13, h13, l13, r13⟩ := logStep_has lg13_has (by decide +kernel) hu h15 u1 u2 l15 r15
  obtain ⟨q11, h11, l11, r11⟩ := logStep_has lg11_has (by decide +kernel) hu h13 u1 u2 l13 r13
  obtain ⟨q9, h9, l9, r9⟩ := logStep_has lg9_has (by decide +kernel) hu h11 u1 u2 l11 r11
  obtain ⟨q7, h7, l7, r7⟩ := logStep_has lg7_has (by decide +kernel) hu h9 u1 u2 l9 r9
  obtain ⟨q5, h5, l5, r5⟩ := logStep_has lg5_has (by decide +kernel) hu h7 u1 u2 l7 r7
  obtain ⟨q3, h3, l3, r3⟩ := logStep_has lg3_has (by decide +kernel) hu h5 u1 u2 l5 r5
  obtain ⟨q1, h1, l1, r1⟩ := logStep_has lg1_has (by decide +kernel) hu h3 u1 u2 l3 r3
  exact ⟨q1, h1, l1, r1⟩
theorem natLog_has {x : F64} {v : Rat} (hx : Has x v) (v1 : 76 / 100 ≤ v) (v2 : v ≤ 13 / 10) : natOk x = true ∧ ∃ w, Has (natLog x) w ∧ -1 ≤ w ∧ w ≤ 1 := by
  have h1 : ge x k15 = false := by rw [ge_has hx k15_has]; exact decide_eq_false (by grind)
  have h2 : lt x k075 = false := by rw [lt_has hx k075_has]; exact decide_eq_false (by grind)
  have a : nlA x = (true, (x, zero)) := by
    unfold nlA
    show halve (7 + 1) (x, zero) = _
    unfold halve
    rw [h1]; rfl
  have b : nlB x = (true, (x, zero)) := by
    unfold nlB
    rw [a]
    show dbl (7 + 1) (x, zero) = _
    unfold dbl
    rw [show lt (x, zero).1 k075 = false from h2]; rfl
  refine ⟨by unfold natOk; rw [a, b]; rfl, ?_⟩
  unfold natLog
  rw [b]
  have e1 : (2 : Rat) ^ (0 : Int) = 1 := by decide +kernel
  have e2 : (2 : Rat) ^ ((0 : Int) - 51) = 1 / 2251799813685248 := by decide +kernel
  have e3 : (2 : Rat) ^ ((0 : Int) - 53) = 1 / 9007199254740992 := by decide +kernel
  have e4 : (2 : Rat) ^ (2 : Int) = 4 := by decide +kernel
  have e5 : (2 : Rat) ^ ((2 : Int) - 53) = 1 / 2251799813685248 := by decide +kernel
  obtain ⟨p, hp, p1, p2⟩ := sub_has (E := 0) hx one_has (by rw [e1]; grind) (by rw [e1]; grind) (by decide) (by decide)
  obtain ⟨q, hq, q1, q2⟩ := add_has (E := 2) hx one_has (by rw [e4]; grind) (by rw [e4]; grind) (by decide) (by decide)
  rw [e3] at p1 p2
  rw [e5] at q1 q2
  obtain ⟨r, hr⟩ : ∃ r : Rat, r * q = 1 := ⟨q⁻¹, by rw [Rat.mul_comm]; exact Rat.mul_inv_cancel q (by grind)⟩
  have r0 : 0 ≤ r := by
    refine Rat.not_lt.1 fun h => ?_
    have := Rat.mul_nonneg (show 0 ≤ -r by grind) (show 0 ≤ q by grind)
    grind
  have k1 : p * r ≤ 138 / 1000 ∧ -(138 / 1000) ≤ p * r := by
    have a1 := Rat.mul_le_mul_of_nonneg_right (show p ≤ 138 / 1000 * q by grind) r0
    have a2 := Rat.mul_le_mul_of_nonneg_right (show -(138 / 1000 * q) ≤ p by grind) r0
    have f1 : 138 / 1000 * q * r = 138 / 1000 * (r * q) := by grind
    have f2 : -(138 / 1000 * q) * r = -(138 / 1000 * (r * q)) := by grind
    rw [f1, hr] at a1
    rw [f2, hr] at a2
    constructor <;> grind
  obtain ⟨s, hs, s1, s2⟩ := div_has (E := 0) (c := p * r) hp hq (by grind) (by grind) (by rw [e1]; grind) (by rw [e1]; grind) (by decide) (by decide)
  rw [e2] at s1 s2
  have m := ab_mul (a := s) (b := s) (A := 139 / 1000) (B := 139 / 1000) (by grind) (by grind) (by grind) (by grind)
  obtain ⟨u, hu, u1, u2⟩ := mul_has (E := 0) hs hs (by rw [e1]; grind) (by rw [e1]; grind) (by decide) (by decide)
  rw [e3] at u1 u2
  obtain ⟨l, hl, l1, l2⟩ := logPoly_has hu (by grind) (by grind)
  have m2 := ab_mul (a := s) (b := l) (A := 139 / 1000) (B := 2) (by grind) (by grind) l1 l2
  obtain ⟨t, ht, t1, t2⟩ := mul_has (E := 0) hs hl (by rw [e1]; grind) (by rw [e1]; grind) (by decide) (by decide)
  rw [e3] at t1 t2
  obtain ⟨w, hw, w1, w2⟩ := mul_has (E := 0) two_has ht (by rw [e1]; grind) (by rw [e1]; grind) (by decide) (by decide)
  rw [e3] at w1 w2
  obtain ⟨o, ho, o1, o2⟩ := mul_has (E := 0) zero_has ln2_has (by rw [e1]; grind) (by rw [e1]; grind) (by decide) (by decide)
  rw [e3] at o1 o2
  obtain ⟨z, hz, z1, z2⟩ := add_has (E := 0) hw ho (by rw [e1]; grind) (by rw [e1]; grind) (by decide) (by decide)
  rw [e3] at z1 z2
  exact ⟨z, hz, by grind, by grind⟩
theorem lnV_has {x : F32} {v : Rat} (hx : HasS x v) (v1 : 76 / 100 ≤ v) (v2 : v ≤ 13 / 10) : lnQ x = true ∧ ∃ w, HasS (lnV x) w ∧ -2 ≤ w ∧ w ≤ 2 := by
  obtain ⟨h1, w, hw, w1, w2⟩ := natLog_has (widen_has hx) v1 v2
  have e1 : (2 : Rat) ^ (0 : Int) = 1 := by decide +kernel
  have e2 : (2 : Rat) ^ ((0 : Int) - 24) = 1 / 16777216 := by decide +kernel
  obtain ⟨hf, u, hu, u1, u2⟩ := narrow_has (E := 0) hw (by rw [e1]; grind) (by rw [e1]; grind) (by decide) (by decide)
  rw [e2] at u1 u2
  have n1 : ne x x = false := by
    obtain ⟨z, z', e, ho, g1, g2⟩ := ordS_has hx hx
    unfold ne
    rw [ho]
    have : z = z' := by
      have h := g1.symm.trans g2
      rcases Int.lt_trichotomy z z' with h1 | h1 | h1
      · have := (wi_lt e).2 h1; grind
      · exact h1
      · have := (wi_lt e).2 h1; grind
    subst this
    rw [show compare z z = .eq from Int.compare_eq_eq.2 rfl]; rfl
  have n2 : lt x (c32 0) = false := by rw [ltS_has hx zero_hasS]; exact decide_eq_false (by grind)
  have n3 : eq x (c32 0) = false := by
    obtain ⟨z, z', e, ho, g1, g2⟩ := ordS_has hx zero_hasS
    unfold eq
    rw [ho]
    cases hcmp : compare z z' with
    | eq =>
      have := Int.compare_eq_eq.1 hcmp
      subst this
      rw [← g2] at g1
      grind
    | lt => rfl
    | gt => rfl
  refine ⟨?_, u, hu, by grind, by grind⟩
  unfold lnQ
  rw [n1, n2, n3, hasS_fin hx, h1, hf]; rfl
end Go.Proofs.Ytlpahmefebgdlaa.Fx
/- The law FnSections: what its run asks of the numbers. No condition. -/
namespace Go.Proofs.Ytlpahmefebgdlaa.Fx
open Go

theorem flAll_of (s h : F32) (p : Sh) : ∀ n : Nat, (∀ k, k < n → stQ s (flS s h k p) h = true) → flAll s h p n = true
  | 0, _ => rfl
  | n + 1, hq => by
    unfold flAll
    rw [flAll_of s h p n fun k hk => hq k (by omega), hq n (by omega)]; rfl
/-- The flights' boxes for a start. -/
theorem boxes (b : Int) (h0 : 0 ≤ b) (h1 : b < 8) : ∃ bx : Nat → Bx, chkN (197 / 100) 5 (-3 / 10) (3 / 10) 0 (33 / 100) (22 / 100) bx 12 = true ∧ ((List.range 13).all fun k => bIn (bx k) (zB (197 / 100) 5 (-3 / 10) (3 / 10))) = true ∧
    ∀ P : V4, (P.x = 2 + (b : Rat) / 4 ∨ P.x = 2 + (b : Rat) / 4 + 1 / 128) → P.y = -1 / 4 → -1 / 4 ≤ P.u → P.u ≤ 1 / 4 → P.v = 1 → In (bx 0) P := by
  have h' : b = 0 ∨ b = 1 ∨ b = 2 ∨ b = 3 ∨ b = 4 ∨ b = 5 ∨ b = 6 ∨ b = 7 := by omega
  rcases h' with rfl | rfl | rfl | rfl | rfl | rfl | rfl | rfl
  · refine ⟨box0, box0_ok, by decide +kernel, fun P hx hy hu hu' hv => ?_⟩
    have e1 : (2 : Rat) + ((0 : Int) : Rat) / 4 = 2 / 1 := by decide +kernel
    rw [e1] at hx
    unfold box0
    constructor <;> rcases hx with hx | hx <;> grind
  · refine ⟨box1, box1_ok, by decide +kernel, fun P hx hy hu hu' hv => ?_⟩
    have e1 : (2 : Rat) + ((1 : Int) : Rat) / 4 = 9 / 4 := by decide +kernel
    rw [e1] at hx
    unfold box1
    constructor <;> rcases hx with hx | hx <;> grind
  · refine ⟨box2, box2_ok, by decide +kernel, fun P hx hy hu hu' hv => ?_⟩
    have e1 : (2 : Rat) + ((2 : Int) : Rat) / 4 = 5 / 2 := by decide +kernel
    rw [e1] at hx
    unfold box2
    constructor <;> rcases hx with hx | hx <;> grind
  · refine ⟨box3, box3_ok, by decide +kernel, fun P hx hy hu hu' hv => ?_⟩
    have e1 : (2 : Rat) + ((3 : Int) : Rat) / 4 = 11 / 4 := by decide +kernel
    rw [e1] at hx
    unfold box3
    constructor <;> rcases hx with hx | hx <;> grind
  · refine ⟨box4, box4_ok, by decide +kernel, fun P hx hy hu hu' hv => ?_⟩
    have e1 : (2 : Rat) + ((4 : Int) : Rat) / 4 = 3 / 1 := by decide +kernel
    rw [e1] at hx
    unfold box4
    constructor <;> rcases hx with hx | hx <;> grind
  · refine ⟨box5, box5_ok, by decide +kernel, fun P hx hy hu hu' hv => ?_⟩
    have e1 : (2 : Rat) + ((5 : Int) : Rat) / 4 = 13 / 4 := by decide +kernel
    rw [e1] at hx
    unfold box5
    constructor <;> rcases hx with hx | hx <;> grind
  · refine ⟨box6, box6_ok, by decide +kernel, fun P hx hy hu hu' hv => ?_⟩
    have e1 : (2 : Rat) + ((6 : Int) : Rat) / 4 = 7 / 2 := by decide +kernel
    rw [e1] at hx
    unfold box6
    constructor <;> rcases hx with hx | hx <;> grind
  · refine ⟨box7, box7_ok, by decide +kernel, fun P hx hy hu hu' hv => ?_⟩
    have e1 : (2 : Rat) + ((7 : Int) : Rat) / 4 = 15 / 4 := by decide +kernel
    rw [e1] at hx
    unfold box7
    constructor <;> rcases hx with hx | hx <;> grind
/-- A flight of the law. -/
theorem sc_flight {s : F32} {m k1 k2 : Rat} {p : Sh} {P : V4} {bx : Nat → Bx} (hs : Shr s m) (hz : Zone m (197 / 100) 5 (-3 / 10) (3 / 10) 0 (33 / 100) (22 / 100) k1 k2) (hp : HasG 1 p P) (hb : In (bx 0) P)
    (hc : chkN (197 / 100) 5 (-3 / 10) (3 / 10) 0 (33 / 100) (22 / 100) bx 12 = true) (hr : ((List.range 13).all fun k => bIn (bx k) (zB (197 / 100) 5 (-3 / 10) (3 / 10))) = true) :
    flQ s scH p 12 = true ∧ ∃ Q : Nat → V4, Q 0 = P ∧ (∀ k, k ≤ 12 → Fl2 (flS s scH k p) (Q k)) ∧ (∀ k, k < 12 → (Q k).y + 1 / 1000 ≤ (Q (k + 1)).y) ∧
      (∀ k, k < 12 → ∃ K P2 L P3 M P4 N, Stg s m 1 k1 k2 (flS s scH k p) scH (Q k) K P2 L P3 M P4 N (Q (k + 1))) := by
  have hf : finS scH = true := by kernel_rfl
  obtain ⟨Q, e, g1, g2⟩ := flight_box hs hz (by grind) tick_s hf hp hb 12 hc
  rw [List.all_eq_true] at hr
  refine ⟨?_, Q, e, fun k hk => ?_, fun k hk => (g2 k hk).2.2, fun k hk => (g2 k hk).2.1⟩
  · have hfin : p.fin = true := by
      unfold Sh.fin vShip cfin
      rw [hasS_fin hp.x, hasS_fin hp.y, hasS_fin hp.u, hasS_fin hp.v]; rfl
    unfold flQ
    rw [hs.is, hfin, hf, flAll_of s scH p 12 fun k hk => (g2 k hk).1]; rfl
  · obtain ⟨h1, h2⟩ := g1 k hk
    have y := h1.y
    have u := h1.u
    rw [Rat.one_mul] at y u
    exact ⟨h1.x, y, u, h1.v, in_z (in_in (hr k (List.mem_range.2 (by omega))) h2)⟩
theorem cpq_has {s : F32} {m k1 k2 : Rat} {q : Sh} {P : V4} (hs : Shr s m) (hz : Zone m (197 / 100) 5 (-3 / 10) (3 / 10) 0 (33 / 100) (22 / 100) k1 k2) (h : Fl2 q P) : cpq s q = true ∧ ∃ R, HasS (cpd s q) R := by
  obtain ⟨hx, hy, hu, hv, x1, x2, y1, y2, u1, u2, v1, v2⟩ := h
  obtain ⟨hf, d, e, z, R1, q1, R2, q2, hP⟩ := place_has hs hx hy (by grind) (by grind) (by grind) (by grind) (hz.f1 _ _ x1 x2 y1 y2) (hz.f2 _ _ x1 x2 y1 y2)
  unfold frFit at hf
  rw [Bool.and_eq_true] at hf
  exact ⟨hf.2, R2, hP.h2⟩
theorem cpL_eq (s h : F32) (p : Sh) : cpL s h p = (List.range 13).map fun k => flS s h k p := rfl
/-- How far apart: a small distance. -/
theorem long_small {x y : F32} {a b : Rat} (hx : HasS x a) (hy : HasS y b) (a1 : 64 / 10000 ≤ a) (a2 : a ≤ 92 / 10000) (b1 : -(1 / 1000) ≤ b) (b2 : b ≤ 1 / 1000) :
    fits (longF x y) = true ∧ ∃ R, HasS (long x y) R ∧ 6 / 1000 ≤ R ∧ R ≤ 1 / 100 := by
  have s1 := mul_bd (a := a) (b := a) (A := 92 / 10000) (B := 92 / 10000) (by grind) a2 (by grind) a2
  have s2 : 64 / 10000 * (64 / 10000) ≤ a * a := by
    have t1 := Rat.mul_le_mul_of_nonneg_left a1 (show (0 : Rat) ≤ 64 / 10000 by grind)
    have t2 := Rat.mul_le_mul_of_nonneg_right a1 (show 0 ≤ a by grind)
    grind
  obtain ⟨t1, t2⟩ := sq_le b1 b2
  have e1 : (2 : Rat) ^ (-12 : Int) = 1 / 4096 := by decide +kernel
  have e2 : (2 : Rat) ^ ((-12 : Int) - 53) = 1 / 36893488147419103232 := by decide +kernel
  obtain ⟨p, hp, p1, p2⟩ := mul_has (E := -12) (widen_has hx) (widen_has hx) (by rw [e1]; grind) (by rw [e1]; grind) (by decide) (by decide)
  obtain ⟨q, hq, q1, q2⟩ := mul_has (E := -12) (widen_has hy) (widen_has hy) (by rw [e1]; grind) (by rw [e1]; grind) (by decide) (by decide)
  rw [e2] at p1 p2 q1 q2
  generalize a * a = A at *
  generalize b * b = C at *
  obtain ⟨r, hr, r1, r2⟩ := add_has (E := -12) hp hq (by rw [e1]; grind) (by rw [e1]; grind) (by decide) (by decide)
  rw [e2] at r1 r2
  have e5 : (2 : Rat) ^ (2 * (-6 : Int)) = 1 / 4096 := by decide +kernel
  have e6 : (2 : Rat) ^ (2 * (-6 : Int) - 49) = 1 / 2305843009213693952 := by decide +kernel
  obtain ⟨w, hw, w0, w1, w2⟩ := sqrt_has (E := -6) hr (by grind) (by rw [e5]; grind) (by decide) (by decide)
  rw [e6] at w1 w2
  have w3 : w ≤ 95 / 10000 := sq_le_sq (by grind) (by grind)
  have w4 : 62 / 10000 ≤ w := sq_le_sq w0 (by grind)
  have e7 : (2 : Rat) ^ (-6 : Int) = 1 / 64 := by decide +kernel
  have e8 : (2 : Rat) ^ ((-6 : Int) - 24) = 1 / 1073741824 := by decide +kernel
  obtain ⟨hf, R, hR, R1, R2⟩ := narrow_has (E := -6) hw (by rw [e7]; grind) (by rw [e7]; grind) (by decide) (by decide)
  rw [e8] at R1 R2
  exact ⟨hf, R, hR, by grind, by grind⟩
theorem apart_has : HasS (long paA (c32 0)) (1 / 128) := ⟨false, 8388608, -30, ⟨1006632960, by kernel_rfl, by decide⟩, by decide +kernel⟩
theorem span_has : HasS (twelve32 * scH) (3 / 8) := ⟨false, 12582912, -25, ⟨1052770304, by kernel_rfl, by decide⟩, by decide +kernel⟩
theorem twenty_has : HasS (c32 1101004800) 20 := ⟨false, 10485760, -19, ⟨1101004800, rfl, by decide⟩, by decide +kernel⟩
theorem mtwenty_has : HasS (c32 3248488448) (-20) := ⟨true, 10485760, -19, ⟨3248488448, rfl, by decide⟩, by decide +kernel⟩
theorem part_has {s : F32} {p : Sh} {E E' : V4} (h1 : Fl2 (paE s scH p) E) (h2 : Fl2 (paE s scH (paB' p)) E') (x1 : 645 / 100000 ≤ E'.x - E.x) (x2 : E'.x - E.x ≤ 918 / 100000) (y1 : -(9 / 10000) ≤ E'.y - E.y) (y2 : E'.y - E.y ≤ 9 / 10000) :
    fits (paLf s scH p) = true ∧ lnQ (paR s scH p) = true ∧ finS (paW s scH p) = true ∧ gt (paW s scH p) (c32 1101004800) = false ∧ lt (paW s scH p) (c32 3248488448) = false := by
  obtain ⟨dx, hdx, d1, d2⟩ := subE (-6) (1 / 64) (1 / 1073741824) (by decide +kernel) (by decide +kernel) (by decide) (by decide) h2.x h1.x (by grind) (by grind)
  obtain ⟨dy, hdy, d3, d4⟩ := subE (-6) (1 / 64) (1 / 1073741824) (by decide +kernel) (by decide +kernel) (by decide) (by decide) h2.y h1.y (by grind) (by grind)
  obtain ⟨hf, R, hR, R1, R2⟩ := long_small hdx hdy (by grind) (by grind) (by grind) (by grind)
  obtain ⟨r, hr, r1, r2⟩ := divE 1 2 (1 / 2097152) (by decide +kernel) (by decide +kernel) (by decide) (by decide) hR apart_has (c := R * 128) (by grind) (by grind) (by grind) (by grind)
  have hr' : HasS (paR s scH p) r := hr
  obtain ⟨hq, l, hl, l1, l2⟩ := lnV_has hr' (by grind) (by grind)
  obtain ⟨w, hw, w1, w2⟩ := divE 3 8 (1 / 524288) (by decide +kernel) (by decide +kernel) (by decide) (by decide) hl span_has (c := l * (8 / 3)) (by grind) (by grind) (by grind) (by grind)
  have hw' : HasS (paW s scH p) w := hw
  refine ⟨hf, hq, hasS_fin hw', ?_, ?_⟩
  · rw [gtS_has hw' twenty_has]; exact decide_eq_false (by grind)
  · rw [ltS_has hw' mtwenty_has]; exact decide_eq_false (by grind)
/-- All that the law's run asks. -/
structure ScOk (s : F32) (p : Sh) : Prop where
  is : isShare s = true
  fl : flQ s scH p 12 = true
  pt : ptQ s scH p = true
  hi : gt (paW s scH p) (c32 1101004800) = false
  lo : lt (paW s scH p) (c32 3248488448) = false
  ch : Chain (cpL s scH p)
  cp : ∀ q ∈ cpL s scH p, cpq s q = true ∧ ∃ R, HasS (cpd s q) R
theorem sc_ok (a b d : Int) (a0 : 0 ≤ a) (a1 : a < 16) (b0 : 0 ≤ b) (b1 : b < 8) (d0 : 0 ≤ d) (d1 : d < 17) : ScOk (scShare a) (scShip b d) := by
  obtain ⟨m, k1, k2, hs, hz⟩ := share_zone a a0 a1
  obtain ⟨bx, hc, hr, hb⟩ := boxes b b0 b1
  obtain ⟨hx, hx'⟩ := start_x b b0 b1
  have hu := start_u d d0 d1
  have u1 : -1 / 4 ≤ ((d : Rat) - 8) / 32 := by
    have : ((0 : Int) : Rat) ≤ (d : Rat) := Rat.intCast_le_intCast.2 d0
    have e : ((0 : Int) : Rat) = 0 := rfl
    rw [e] at this
    grind
  have u2 : ((d : Rat) - 8) / 32 ≤ 1 / 4 := by
    have : (d : Rat) ≤ ((16 : Int) : Rat) := Rat.intCast_le_intCast.2 (by omega)
    have e : ((16 : Int) : Rat) = 16 := rfl
    rw [e] at this
    grind
  have hp : HasG 1 (scShip b d) ⟨2 + (b : Rat) / 4, -1 / 4, ((d : Rat) - 8) / 32, 1⟩ := ⟨hx, by rw [Rat.one_mul]; exact start_y.1, by rw [Rat.one_mul]; exact hu, one_hasS⟩
  have hp' : HasG 1 (paB' (scShip b d)) ⟨2 + (b : Rat) / 4 + 1 / 128, -1 / 4, ((d : Rat) - 8) / 32, 1⟩ := ⟨hx', by rw [Rat.one_mul]; exact start_y.2, by rw [Rat.one_mul]; exact hu, one_hasS⟩
  obtain ⟨f1, Q, e, g1, g2, g3⟩ := sc_flight hs hz hp (hb _ (.inl rfl) rfl u1 u2 rfl) hc hr
  obtain ⟨f1', Q', e', g1', g2', g3'⟩ := sc_flight hs hz hp' (hb _ (.inr rfl) rfl u1 u2 rfl) hc hr
  have hD : Df (difD 0) (Q' 0) (Q 0) := by
    rw [e, e']
    unfold difD
    constructor <;> dsimp only <;> grind
  obtain ⟨i1, i2, i3⟩ := flight_pair (W := difW) hs hz.c (by grind) hD (by decide +kernel) g3' g3 12 (Nat.le_refl 12) dif_ok
  have e0 : (Q' 0).x - (Q 0).x = 1 / 128 := by rw [e, e']; dsimp only; grind
  have w12 : difW 12 ≤ 1355 / 1000000 := by decide +kernel
  have y12 : (difD 12).y ≤ 9 / 10000 := by decide +kernel
  have j1 := i1.y1
  have j2 := i1.y2
  generalize difW 12 = W at *
  generalize (difD 12).y = Y at *
  obtain ⟨q1, q2, q3, q4, q5⟩ := part_has (g1 12 (Nat.le_refl 12)) (g1' 12 (Nat.le_refl 12)) (by grind) (by grind) (by grind) (by grind)
  have al : aLength scH = true := by kernel_rfl
  refine ⟨hs.is, f1, ?_, q4, q5, ?_, ?_⟩
  · unfold ptQ
    rw [al, f1, f1', q1, q2, q3]; rfl
  · have pr : ∀ k, k < 12 → ∃ P P', Fl2 (flS (scShare a) scH k (scShip b d)) P ∧ Fl2 (flS (scShare a) scH (k + 1) (scShip b d)) P' ∧ P.y + 1 / 1000 ≤ P'.y := fun k hk => ⟨_, _, g1 k (by omega), g1 (k + 1) (by omega), g2 k hk⟩
    rw [cpL_eq]
    exact ⟨pr 0 (by decide), pr 1 (by decide), pr 2 (by decide), pr 3 (by decide), pr 4 (by decide), pr 5 (by decide), pr 6 (by decide), pr 7 (by decide), pr 8 (by decide), pr 9 (by decide), pr 10 (by decide), pr 11 (by decide), trivial⟩
  · intro q hq
    rw [cpL_eq, List.mem_map] at hq
    obtain ⟨k, hk, rfl⟩ := hq
    exact cpq_has hs hz (g1 k (by have := List.mem_range.1 hk; omega))
end Go.Proofs.Ytlpahmefebgdlaa.Fx
