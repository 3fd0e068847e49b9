/- The operations on floats, 64 and 32 bits, that the kernel reckons fast. No condition. -/
import Derived.Test.YtlpahmefebgdlaaFb
namespace Go.Proofs.Ytlpahmefebgdlaa.Fx
open Go Fa


theorem read_flip (f : Ieee.Format) (b : Nat) : f.read (b + f.signWeight - 2 * f.signWeight * (b / f.signWeight % 2)) = (f.read b).opposite := by
  have hS : 0 < f.signWeight := Nat.two_pow_pos _
  have key : (b + f.signWeight - 2 * f.signWeight * (b / f.signWeight % 2)) % f.signWeight = b % f.signWeight ∧ ((b + f.signWeight - 2 * f.signWeight * (b / f.signWeight % 2)) / f.signWeight % 2 == 1) = !(b / f.signWeight % 2 == 1) := by
    rcases Nat.mod_two_eq_zero_or_one (b / f.signWeight) with h | h
    · rw [h, Nat.mul_zero, Nat.sub_zero, Nat.add_mod_right, Nat.add_div_right _ hS]
      refine ⟨rfl, ?_⟩
      rw [show (b / f.signWeight + 1) % 2 = 1 by omega]; rfl
    · rw [h, Nat.mul_one]
      have hle : f.signWeight ≤ b := by
        refine Nat.le_of_not_lt fun h0 => ?_
        rw [Nat.div_eq_of_lt h0] at h; cases h
      rw [show b + f.signWeight - 2 * f.signWeight = b - f.signWeight by omega]
      obtain ⟨c, rfl⟩ : ∃ c, b = c + f.signWeight := ⟨b - f.signWeight, by omega⟩
      rw [Nat.add_sub_cancel, Nat.add_mod_right]
      rw [Nat.add_div_right _ hS] at h
      refine ⟨rfl, ?_⟩
      rw [show c / f.signWeight % 2 = 0 by omega]; rfl
  unfold Ieee.Format.read
  dsimp only
  rw [key.1, key.2]
  split
  · rfl
  · split
    · rfl
    · split <;> rfl
theorem sub_flip (f : Ieee.Format) (a b : Nat) : f.add a (b + f.signWeight - 2 * f.signWeight * (b / f.signWeight % 2)) = f.sub a b := by
  unfold Ieee.Format.add Ieee.Format.sub; rw [read_flip]

theorem ble_no {m n : Nat} (h : n < m) : Nat.ble m n = false := Bool.eq_false_iff.2 fun h0 => by have := Nat.le_of_ble_eq_true h0; omega
theorem kcmp_lt (m n : Nat) : Nat.ble (Nat.succ m) n = (some (compare m n) == some .lt) := by
  rw [cmp_nat]
  rcases Nat.lt_trichotomy m n with h | h | h
  · rw [if_pos h, Nat.ble_eq_true_of_le h]; rfl
  · rw [if_neg (by omega), if_pos h, ble_no (by omega)]; rfl
  · rw [if_neg (by omega), if_neg (by omega), ble_no (by omega)]; rfl
theorem kcmp_gt (m n : Nat) : Nat.ble (Nat.succ n) m = (some (compare m n) == some .gt) := by
  rw [cmp_nat]
  rcases Nat.lt_trichotomy m n with h | h | h
  · rw [if_pos h, ble_no (by omega)]; rfl
  · rw [if_neg (by omega), if_pos h, ble_no (by omega)]; rfl
  · rw [if_neg (by omega), if_neg (by omega), Nat.ble_eq_true_of_le h]; rfl
theorem kcmp_le (m n : Nat) : Nat.ble m n = (some (compare m n) == some .lt || some (compare m n) == some .eq) := by
  rw [cmp_nat]
  rcases Nat.lt_trichotomy m n with h | h | h
  · rw [if_pos h, Nat.ble_eq_true_of_le (Nat.le_of_lt h)]; rfl
  · rw [if_neg (by omega), if_pos h, Nat.ble_eq_true_of_le (by omega)]; rfl
  · rw [if_neg (by omega), if_neg (by omega), ble_no (by omega)]; rfl
theorem kcmp_ge (m n : Nat) : Nat.ble n m = (some (compare m n) == some .gt || some (compare m n) == some .eq) := by
  rw [cmp_nat]
  rcases Nat.lt_trichotomy m n with h | h | h
  · rw [if_pos h, ble_no (by omega)]; rfl
  · rw [if_neg (by omega), if_pos h, Nat.ble_eq_true_of_le (by omega)]; rfl
  · rw [if_neg (by omega), if_neg (by omega), Nat.ble_eq_true_of_le (Nat.le_of_lt h)]; rfl
theorem kcmp_eq (m n : Nat) : Nat.beq m n = (some (compare m n) == some .eq) := by
  rw [cmp_nat]
  have hb : Nat.beq m n = decide (m = n) := by
    by_cases h : m = n
    · rw [decide_eq_true h, h]; exact Nat.beq_refl n
    · rw [decide_eq_false h]; exact Bool.eq_false_iff.2 fun h0 => h (Nat.eq_of_beq_eq_true h0)
  rw [hb]
  rcases Nat.lt_trichotomy m n with h | h | h
  · rw [if_pos h, decide_eq_false (by omega)]; rfl
  · rw [if_neg (by omega), if_pos h, decide_eq_true h]; rfl
  · rw [if_neg (by omega), if_neg (by omega), decide_eq_false (by omega)]; rfl
theorem kcmp_ne (m n : Nat) : (!(Nat.beq m n)) = (some (compare m n) != some .eq) := by
  rw [show (some (compare m n) != some .eq) = !(some (compare m n) == some .eq) from rfl, ← kcmp_eq]

noncomputable def mulD (x y : F64) : F64 := Option.rec none (fun a => Option.rec none (fun b => mulK (nat_lit 4503599627370496) (nat_lit 9223372036854775808) (nat_lit 2048) (nat_lit 52) (nat_lit 1076) (nat_lit 9218868437227405311) a b (Ieee.double.mul a b)) y) x
theorem mulD_eq (x y : F64) : mulD x y = x * y := by
  cases x with
  | none => rfl
  | some a => cases y with
    | none => rfl
    | some b =>
      have h : mulK (nat_lit 4503599627370496) (nat_lit 9223372036854775808) (nat_lit 2048) (nat_lit 52) (nat_lit 1076) (nat_lit 9218868437227405311) a b (Ieee.double.mul a b) = Ieee.double.mul a b := mulK_eq Ieee.double (by decide) (by decide) a b
      exact h
noncomputable def divD (x y : F64) : F64 := Option.rec none (fun a => Option.rec none (fun b => divK (nat_lit 4503599627370496) (nat_lit 9223372036854775808) (nat_lit 2048) (nat_lit 52) (nat_lit 1021) (nat_lit 9218868437227405311) a b (Ieee.double.div a b)) y) x
theorem divD_eq (x y : F64) : divD x y = x / y := by
  cases x with
  | none => rfl
  | some a => cases y with
    | none => rfl
    | some b =>
      have h : divK (nat_lit 4503599627370496) (nat_lit 9223372036854775808) (nat_lit 2048) (nat_lit 52) (nat_lit 1021) (nat_lit 9218868437227405311) a b (Ieee.double.div a b) = Ieee.double.div a b := divK_eq Ieee.double (by decide) (by decide) a b
      exact h
noncomputable def addD (x y : F64) : F64 := Option.rec none (fun a => Option.rec none (fun b => addK (nat_lit 4503599627370496) (nat_lit 9223372036854775808) (nat_lit 2048) (nat_lit 52) (nat_lit 9218868437227405311) a b (Ieee.double.add a b)) y) x
theorem addD_eq (x y : F64) : addD x y = x + y := by
  cases x with
  | none => rfl
  | some a => cases y with
    | none => rfl
    | some b =>
      have h : addK (nat_lit 4503599627370496) (nat_lit 9223372036854775808) (nat_lit 2048) (nat_lit 52) (nat_lit 9218868437227405311) a b (Ieee.double.add a b) = Ieee.double.add a b := addK_eq Ieee.double (by decide) a b
      exact h
noncomputable def flipD (b : Nat) : Nat := Nat.sub (Nat.add b (nat_lit 9223372036854775808)) (Nat.mul (nat_lit 18446744073709551616) (Nat.mod (Nat.div b (nat_lit 9223372036854775808)) (nat_lit 2)))
noncomputable def subD (x y : F64) : F64 := Option.rec none (fun a => Option.rec none (fun b => fc (α := Option Nat) (flipD b) fun b' => addK (nat_lit 4503599627370496) (nat_lit 9223372036854775808) (nat_lit 2048) (nat_lit 52) (nat_lit 9218868437227405311) a b' (Ieee.double.sub a b)) y) x
theorem subD_eq (x y : F64) : subD x y = x - y := by
  cases x with
  | none => rfl
  | some a => cases y with
    | none => rfl
    | some b =>
      have h2 : Ieee.double.sub a b = Ieee.double.add a (flipD b) := (sub_flip Ieee.double a b).symm
      have h : addK (nat_lit 4503599627370496) (nat_lit 9223372036854775808) (nat_lit 2048) (nat_lit 52) (nat_lit 9218868437227405311) a (flipD b) (Ieee.double.add a (flipD b)) = Ieee.double.add a (flipD b) := addK_eq Ieee.double (by decide) a (flipD b)
      unfold subD
      dsimp only
      rw [fc_eq, h2]
      refine h.trans ?_
      rw [← h2]; rfl
noncomputable def negD (x : F64) : F64 := Option.rec none (fun a => fc (α := Option Nat) (Nat.xor a (nat_lit 9223372036854775808)) fun w => some w) x
theorem negD_eq (x : F64) : negD x = -x := by
  cases x with
  | none => rfl
  | some a => unfold negD; dsimp only; rw [fc_eq]; rfl
noncomputable def keyD (a r : Nat) : Nat := Nat.sub (Nat.add (nat_lit 9223372036854775808) r) (Nat.mul (nat_lit 2) (Nat.mul (Nat.mod (Nat.div a (nat_lit 9223372036854775808)) (nat_lit 2)) r))
noncomputable def ordD (f : Nat → Nat → Bool) (slow : Nat → Nat → Bool) (no : Bool) (x y : F64) : Bool := Option.rec no (fun a => Option.rec no (fun b => fc (Nat.mod a (nat_lit 9223372036854775808)) fun r => fc (Nat.mod b (nat_lit 9223372036854775808)) fun s =>
  pz (Nat.mul (Nat.sub (nat_lit 9218868437227405312) r) (Nat.sub (nat_lit 9218868437227405312) s)) (slow a b) (f (keyD a r) (keyD b s))) y) x
theorem ordD_eq {f : Nat → Nat → Bool} {g : Option Ordering → Bool} (hf : ∀ m n, f m n = g (some (compare m n))) (x y : F64) : ordD f (fun a b => g (@ord .f64 (some a) (some b))) (g none) x y = g (ord x y) := by
  cases x with
  | none => rfl
  | some a => cases y with
    | none => rfl
    | some b =>
      unfold ordD
      dsimp only
      rw [fc_eq, fc_eq, pz_eq]
      split
      · rfl
      · rename_i h
        have h1 : a % Ieee.double.signWeight < Ieee.double.infRung := Nat.lt_of_not_le fun h0 => h (by
          show ((nat_lit 9218868437227405312) - a % (nat_lit 9223372036854775808)) * _ = 0
          have h0' : (nat_lit 9218868437227405312) ≤ a % (nat_lit 9223372036854775808) := h0
          rw [Nat.sub_eq_zero_of_le h0', Nat.zero_mul])
        have h2 : b % Ieee.double.signWeight < Ieee.double.infRung := Nat.lt_of_not_le fun h0 => h (by
          show _ * ((nat_lit 9218868437227405312) - b % (nat_lit 9223372036854775808)) = 0
          have h0' : (nat_lit 9218868437227405312) ≤ b % (nat_lit 9223372036854775808) := h0
          rw [Nat.sub_eq_zero_of_le h0', Nat.mul_zero])
        have h3 := order_fin Ieee.double h1 h2
        have h4 : @ord .f64 (some a) (some b) = some (compare (key Ieee.double.signWeight a) (key Ieee.double.signWeight b)) := h3
        rw [h4, ← hf]
        rfl
noncomputable def ltD (x y : F64) : Bool := ordD (fun m n => Nat.ble (Nat.succ m) n) (fun a b => @lt .f64 (some a) (some b)) false x y
theorem ltD_eq (x y : F64) : ltD x y = lt x y := ordD_eq (f := fun m n => Nat.ble (Nat.succ m) n) (g := fun o => o == some .lt) kcmp_lt x y
noncomputable def leD (x y : F64) : Bool := ordD (fun m n => Nat.ble m n) (fun a b => @le .f64 (some a) (some b)) false x y
theorem leD_eq (x y : F64) : leD x y = le x y := ordD_eq (f := fun m n => Nat.ble m n) (g := fun o => o == some .lt || o == some .eq) kcmp_le x y
noncomputable def gtD (x y : F64) : Bool := ordD (fun m n => Nat.ble (Nat.succ n) m) (fun a b => @gt .f64 (some a) (some b)) false x y
theorem gtD_eq (x y : F64) : gtD x y = gt x y := ordD_eq (f := fun m n => Nat.ble (Nat.succ n) m) (g := fun o => o == some .gt) kcmp_gt x y
noncomputable def geD (x y : F64) : Bool := ordD (fun m n => Nat.ble n m) (fun a b => @ge .f64 (some a) (some b)) false x y
theorem geD_eq (x y : F64) : geD x y = ge x y := ordD_eq (f := fun m n => Nat.ble n m) (g := fun o => o == some .gt || o == some .eq) kcmp_ge x y
noncomputable def eqD (x y : F64) : Bool := ordD (fun m n => Nat.beq m n) (fun a b => @eq .f64 (some a) (some b)) false x y
theorem eqD_eq (x y : F64) : eqD x y = eq x y := ordD_eq (f := fun m n => Nat.beq m n) (g := fun o => o == some .eq) kcmp_eq x y
noncomputable def neD (x y : F64) : Bool := ordD (fun m n => !(Nat.beq m n)) (fun a b => @ne .f64 (some a) (some b)) true x y
theorem neD_eq (x y : F64) : neD x y = ne x y := ordD_eq (f := fun m n => !(Nat.beq m n)) (g := fun o => o != some .eq) kcmp_ne x y
noncomputable def sqrtD (x : F64) : F64 := Option.rec none (fun a => sqrtK (nat_lit 4503599627370496) (nat_lit 9223372036854775808) (nat_lit 2048) (nat_lit 52) (nat_lit 1077) (nat_lit 9218868437227405311) a (Ieee.double.sqrt a)) x
theorem sqrtD_eq (x : F64) : sqrtD x = sqrt x := by
  cases x with
  | none => rfl
  | some a =>
    have h : sqrtK (nat_lit 4503599627370496) (nat_lit 9223372036854775808) (nat_lit 2048) (nat_lit 52) (nat_lit 1077) (nat_lit 9218868437227405311) a (Ieee.double.sqrt a) = Ieee.double.sqrt a := sqrtK_eq Ieee.double (by decide) (by decide) a
    rw [sqrt_some]
    exact h
noncomputable def absD (x : F64) : F64 := Option.rec none (fun a => fc (α := Option Nat) (Nat.mod a (nat_lit 9223372036854775808)) fun w => some w) x
theorem absD_eq (x : F64) : absD x = fabs x := by
  cases x with
  | none => rfl
  | some a => unfold absD; dsimp only; rw [fc_eq]; rfl
noncomputable def floorK (a : Nat) (slow : Option Nat) : Option Nat := fc (Nat.mod (Nat.div a (nat_lit 4503599627370496)) (nat_lit 2048)) fun e =>
  pz (Nat.mul (Nat.sub e (nat_lit 1022)) (Nat.sub (nat_lit 1075) e)) slow
  (fc (Nat.pow (nat_lit 2) (Nat.sub (nat_lit 1075) e)) fun g => fc (Nat.add (nat_lit 4503599627370496) (Nat.mod a (nat_lit 4503599627370496))) fun m => fc (Nat.mod (Nat.div a (nat_lit 9223372036854775808)) (nat_lit 2)) fun sg =>
   fc (Nat.add (Nat.div m g) (Nat.mul sg (pz (Nat.mod m g) (nat_lit 0) (nat_lit 1)))) fun n =>
   fc (lg64 n (nat_lit 0)) fun l => finK (nat_lit 4503599627370496) (nat_lit 9223372036854775808) (nat_lit 52) (nat_lit 9218868437227405311) sg n (nat_lit 1075) l slow)
theorem floorK_eq (a : Nat) (slow res : Option Nat) (hs : slow = res) (hres : res = whole .down (some a)) : floorK a slow = res := by
    unfold floorK
    simp only [fc_eq]
    rw [pz_eq (Nat.mul _ _)]
    split
    · exact hs
    · rename_i h
      obtain ⟨e, he⟩ : ∃ e, a / Ieee.double.binade % 2 ^ Ieee.double.exponentBits = e := ⟨_, rfl⟩
      have he2 : Nat.mod (Nat.div a (nat_lit 4503599627370496)) (nat_lit 2048) = e := he
      rw [he2] at h
      have h1 : 1023 ≤ e := by
        refine Nat.lt_of_not_le fun h0 => h ?_
        show (e - 1022) * _ = 0
        rw [Nat.sub_eq_zero_of_le h0, Nat.zero_mul]
      have h2 : e < 1075 := by
        refine Nat.lt_of_not_le fun h0 => h ?_
        show _ * (1075 - e) = 0
        rw [Nat.sub_eq_zero_of_le h0, Nat.mul_zero]
      rw [he2]
      have hr := read_norm Ieee.double he (by omega) (by show e + 1 < 2048; omega)
      have el : Ieee.double.leastPlace = -1074 := by decide
      have hB : Ieee.double.binade = 4503599627370496 := by decide
      have hS : Ieee.double.signWeight = 9223372036854775808 := by decide
      rw [el, hB, hS] at hr
      have m1 := Nat.mod_lt a (show 0 < 4503599627370496 by decide)
      obtain ⟨m, hm⟩ : ∃ m, 4503599627370496 + a % 4503599627370496 = m := ⟨_, rfl⟩
      rw [hm] at hr
      have hm2 : Nat.add (nat_lit 4503599627370496) (Nat.mod a (nat_lit 4503599627370496)) = m := hm
      rw [hm2]
      obtain ⟨sb, hsb⟩ : ∃ sb, (a / 9223372036854775808 % 2 == 1) = sb := ⟨_, rfl⟩
      have hsg : Nat.mod (Nat.div a (nat_lit 9223372036854775808)) (nat_lit 2) = sb.toNat := by rw [← hsb, toNat_sign]; rfl
      rw [hsg]
      rw [hsb] at hr
      have hcut : Ieee.Toward.down.cut sb m (1075 - e) = m / 2 ^ (1075 - e) + sb.toNat * pz (m % 2 ^ (1075 - e)) (nat_lit 0) (nat_lit 1) := by
        unfold Ieee.Toward.cut
        have hl : m.log2 = 52 := log2_of (by omega) (by omega)
        rw [hl, Nat.min_eq_left (by omega), Nat.shiftLeft_eq, Nat.one_mul, pz_eq]
        show m / 2 ^ (1075 - e) + (sb && m % 2 ^ (1075 - e) != 0).toNat = _
        congr 1
        by_cases hz : m % 2 ^ (1075 - e) = 0
        · rw [hz, if_pos rfl]; cases sb <;> rfl
        · rw [if_neg hz]
          have : (m % 2 ^ (1075 - e) != 0) = true := by simpa using hz
          rw [this]; cases sb <;> rfl
      have hw : whole .down (some a) = some (Ieee.double.nearest sb (m / 2 ^ (1075 - e) + sb.toNat * pz (m % 2 ^ (1075 - e)) (nat_lit 0) (nat_lit 1)) (Ieee.double.leastPlace + ((1075 - 1 : Nat) : Int))) := by
        have hd : FloatKind.f64.decode a = .number sb m (-1074 + ((e - 1 : Nat) : Int)) := hr
        have hw1 : whole .down (some a) = some (FloatKind.f64.encode ((Ieee.Datum.number sb m (-1074 + ((e - 1 : Nat) : Int))).integral .down)) := by simp only [whole, hd]; rfl
        rw [hw1]
        simp only [Ieee.Datum.integral]
        rw [show ((-1074 : Int) + ((e - 1 : Nat) : Int)).toNat = 0 by omega, show (-((-1074 : Int) + ((e - 1 : Nat) : Int))).toNat = 1075 - e by omega, Nat.shiftLeft_zero, hcut]
        rfl
      refine fin_eq1 Ieee.double (by decide) hs (by decide) rfl ?_
      rw [hres, hw]; rfl
noncomputable def floorD (x : F64) : F64 := Option.rec none (fun a => floorK a (whole .down (some a))) x
theorem floorD_eq (x : F64) : floorD x = whole .down x := by
  cases x with
  | none => rfl
  | some a => exact floorK_eq a _ _ rfl rfl
noncomputable def mulS (x y : F32) : F32 := Option.rec none (fun a => Option.rec none (fun b => mulK (nat_lit 8388608) (nat_lit 2147483648) (nat_lit 256) (nat_lit 23) (nat_lit 151) (nat_lit 2139095039) a b (Ieee.single.mul a b)) y) x
theorem mulS_eq (x y : F32) : mulS x y = x * y := by
  cases x with
  | none => rfl
  | some a => cases y with
    | none => rfl
    | some b =>
      have h : mulK (nat_lit 8388608) (nat_lit 2147483648) (nat_lit 256) (nat_lit 23) (nat_lit 151) (nat_lit 2139095039) a b (Ieee.single.mul a b) = Ieee.single.mul a b := mulK_eq Ieee.single (by decide) (by decide) a b
      exact h
noncomputable def divS (x y : F32) : F32 := Option.rec none (fun a => Option.rec none (fun b => divK (nat_lit 8388608) (nat_lit 2147483648) (nat_lit 256) (nat_lit 23) (nat_lit 125) (nat_lit 2139095039) a b (Ieee.single.div a b)) y) x
theorem divS_eq (x y : F32) : divS x y = x / y := by
  cases x with
  | none => rfl
  | some a => cases y with
    | none => rfl
    | some b =>
      have h : divK (nat_lit 8388608) (nat_lit 2147483648) (nat_lit 256) (nat_lit 23) (nat_lit 125) (nat_lit 2139095039) a b (Ieee.single.div a b) = Ieee.single.div a b := divK_eq Ieee.single (by decide) (by decide) a b
      exact h
noncomputable def addS (x y : F32) : F32 := Option.rec none (fun a => Option.rec none (fun b => addK (nat_lit 8388608) (nat_lit 2147483648) (nat_lit 256) (nat_lit 23) (nat_lit 2139095039) a b (Ieee.single.add a b)) y) x
theorem addS_eq (x y : F32) : addS x y = x + y := by
  cases x with
  | none => rfl
  | some a => cases y with
    | none => rfl
    | some b =>
      have h : addK (nat_lit 8388608) (nat_lit 2147483648) (nat_lit 256) (nat_lit 23) (nat_lit 2139095039) a b (Ieee.single.add a b) = Ieee.single.add a b := addK_eq Ieee.single (by decide) a b
      exact h
noncomputable def flipS (b : Nat) : Nat := Nat.sub (Nat.add b (nat_lit 2147483648)) (Nat.mul (nat_lit 4294967296) (Nat.mod (Nat.div b (nat_lit 2147483648)) (nat_lit 2)))
noncomputable def subS (x y : F32) : F32 := Option.rec none (fun a => Option.rec none (fun b => fc (α := Option Nat) (flipS b) fun b' => addK (nat_lit 8388608) (nat_lit 2147483648) (nat_lit 256) (nat_lit 23) (nat_lit 2139095039) a b' (Ieee.single.sub a b)) y) x
theorem subS_eq (x y : F32) : subS x y = x - y := by
  cases x with
  | none => rfl
  | some a => cases y with
    | none => rfl
    | some b =>
      have h2 : Ieee.single.sub a b = Ieee.single.add a (flipS b) := (sub_flip Ieee.single a b).symm
      have h : addK (nat_lit 8388608) (nat_lit 2147483648) (nat_lit 256) (nat_lit 23) (nat_lit 2139095039) a (flipS b) (Ieee.single.add a (flipS b)) = Ieee.single.add a (flipS b) := addK_eq Ieee.single (by decide) a (flipS b)
      unfold subS
      dsimp only
      rw [fc_eq, h2]
      refine h.trans ?_
      rw [← h2]; rfl
noncomputable def negS (x : F32) : F32 := Option.rec none (fun a => fc (α := Option Nat) (Nat.xor a (nat_lit 2147483648)) fun w => some w) x
theorem negS_eq (x : F32) : negS x = -x := by
  cases x with
  | none => rfl
  | some a => unfold negS; dsimp only; rw [fc_eq]; rfl
noncomputable def keyS (a r : Nat) : Nat := Nat.sub (Nat.add (nat_lit 2147483648) r) (Nat.mul (nat_lit 2) (Nat.mul (Nat.mod (Nat.div a (nat_lit 2147483648)) (nat_lit 2)) r))
noncomputable def ordS (f : Nat → Nat → Bool) (slow : Nat → Nat → Bool) (no : Bool) (x y : F32) : Bool := Option.rec no (fun a => Option.rec no (fun b => fc (Nat.mod a (nat_lit 2147483648)) fun r => fc (Nat.mod b (nat_lit 2147483648)) fun s =>
  pz (Nat.mul (Nat.sub (nat_lit 2139095040) r) (Nat.sub (nat_lit 2139095040) s)) (slow a b) (f (keyS a r) (keyS b s))) y) x
theorem ordS_eq {f : Nat → Nat → Bool} {g : Option Ordering → Bool} (hf : ∀ m n, f m n = g (some (compare m n))) (x y : F32) : ordS f (fun a b => g (@ord .f32 (some a) (some b))) (g none) x y = g (ord x y) := by
  cases x with
  | none => rfl
  | some a => cases y with
    | none => rfl
    | some b =>
      unfold ordS
      dsimp only
      rw [fc_eq, fc_eq, pz_eq]
      split
      · rfl
      · rename_i h
        have h1 : a % Ieee.single.signWeight < Ieee.single.infRung := Nat.lt_of_not_le fun h0 => h (by
          show ((nat_lit 2139095040) - a % (nat_lit 2147483648)) * _ = 0
          have h0' : (nat_lit 2139095040) ≤ a % (nat_lit 2147483648) := h0
          rw [Nat.sub_eq_zero_of_le h0', Nat.zero_mul])
        have h2 : b % Ieee.single.signWeight < Ieee.single.infRung := Nat.lt_of_not_le fun h0 => h (by
          show _ * ((nat_lit 2139095040) - b % (nat_lit 2147483648)) = 0
          have h0' : (nat_lit 2139095040) ≤ b % (nat_lit 2147483648) := h0
          rw [Nat.sub_eq_zero_of_le h0', Nat.mul_zero])
        have h3 := order_fin Ieee.single h1 h2
        have h4 : @ord .f32 (some a) (some b) = some (compare (key Ieee.single.signWeight a) (key Ieee.single.signWeight b)) := h3
        rw [h4, ← hf]
        rfl
noncomputable def ltS (x y : F32) : Bool := ordS (fun m n => Nat.ble (Nat.succ m) n) (fun a b => @lt .f32 (some a) (some b)) false x y
theorem ltS_eq (x y : F32) : ltS x y = lt x y := ordS_eq (f := fun m n => Nat.ble (Nat.succ m) n) (g := fun o => o == some .lt) kcmp_lt x y
noncomputable def leS (x y : F32) : Bool := ordS (fun m n => Nat.ble m n) (fun a b => @le .f32 (some a) (some b)) false x y
theorem leS_eq (x y : F32) : leS x y = le x y := ordS_eq (f := fun m n => Nat.ble m n) (g := fun o => o == some .lt || o == some .eq) kcmp_le x y
noncomputable def gtS (x y : F32) : Bool := ordS (fun m n => Nat.ble (Nat.succ n) m) (fun a b => @gt .f32 (some a) (some b)) false x y
theorem gtS_eq (x y : F32) : gtS x y = gt x y := ordS_eq (f := fun m n => Nat.ble (Nat.succ n) m) (g := fun o => o == some .gt) kcmp_gt x y
noncomputable def geS (x y : F32) : Bool := ordS (fun m n => Nat.ble n m) (fun a b => @ge .f32 (some a) (some b)) false x y
theorem geS_eq (x y : F32) : geS x y = ge x y := ordS_eq (f := fun m n => Nat.ble n m) (g := fun o => o == some .gt || o == some .eq) kcmp_ge x y
noncomputable def eqS (x y : F32) : Bool := ordS (fun m n => Nat.beq m n) (fun a b => @eq .f32 (some a) (some b)) false x y
theorem eqS_eq (x y : F32) : eqS x y = eq x y := ordS_eq (f := fun m n => Nat.beq m n) (g := fun o => o == some .eq) kcmp_eq x y
noncomputable def neS (x y : F32) : Bool := ordS (fun m n => !(Nat.beq m n)) (fun a b => @ne .f32 (some a) (some b)) true x y
theorem neS_eq (x y : F32) : neS x y = ne x y := ordS_eq (f := fun m n => !(Nat.beq m n)) (g := fun o => o != some .eq) kcmp_ne x y

/-- A 64-bit number narrowed, and whether it fits. -/
noncomputable def narrowK {α : Type} (a : Nat) (slow : α) (k : Nat → α) : α := fc (Nat.mod (Nat.div a (nat_lit 4503599627370496)) (nat_lit 2048)) fun e =>
  pz (Nat.mul (Nat.sub e (nat_lit 896)) (Nat.sub (nat_lit 2047) e)) slow
  (fc (Nat.add (Nat.mul (Nat.sub e (nat_lit 897)) (nat_lit 8388608)) (rneK (Nat.add (nat_lit 4503599627370496) (Nat.mod a (nat_lit 4503599627370496))) (nat_lit 29))) fun r =>
   bb (Nat.ble r (nat_lit 2139095039)) (fc (Nat.add (Nat.mul (Nat.mod (Nat.div a (nat_lit 9223372036854775808)) (nat_lit 2)) (nat_lit 2147483648)) r) k) slow)
theorem narrowK_eq {α : Type} {a : Nat} {slow res : α} {k : Nat → α} (hs : slow = res)
    (h : ∀ s m e, FloatKind.f64.decode a = .number s m e → FloatKind.f32.encode (.number s m e) % 2147483648 ≤ 2139095039 → k (FloatKind.f32.encode (.number s m e)) = res) : narrowK a slow k = res := by
  unfold narrowK
  simp only [fc_eq]
  rw [pz_eq]
  split
  · exact hs
  · rename_i hg
    obtain ⟨e, he⟩ : ∃ e, a / Ieee.double.binade % 2 ^ Ieee.double.exponentBits = e := ⟨_, rfl⟩
    have he2 : Nat.mod (Nat.div a (nat_lit 4503599627370496)) (nat_lit 2048) = e := he
    rw [he2] at hg ⊢
    have h1 : 897 ≤ e := by
      refine Nat.lt_of_not_le fun h0 => hg ?_
      show (e - 896) * _ = 0
      rw [Nat.sub_eq_zero_of_le h0, Nat.zero_mul]
    have h2 : e < 2047 := by
      refine Nat.lt_of_not_le fun h0 => hg ?_
      show _ * (2047 - e) = 0
      rw [Nat.sub_eq_zero_of_le h0, Nat.mul_zero]
    have hn := narrow_norm he h1 (by show e + 1 < 2048; omega)
    have hr := read_norm Ieee.double he (by omega) (by show e + 1 < 2048; omega)
    rw [bb_eq]
    split
    · rename_i hle
      have hle' := Nat.le_of_ble_eq_true hle
      rw [rneK_eq] at hle' ⊢
      obtain ⟨r, hrr⟩ : ∃ r, (e - 897) * 2 ^ 23 + rne (Ieee.double.binade + a % Ieee.double.binade) 29 = r := ⟨_, rfl⟩
      rw [hrr] at hn
      have hle2 : r ≤ 2139095039 := by rw [← hrr]; exact hle'
      have hi : Ieee.single.infRung = 2139095040 := by decide
      have hw : Ieee.single.signWeight = 2147483648 := by decide
      rw [hr] at hn
      have henc : FloatKind.f32.encode (.number (a / Ieee.double.signWeight % 2 == 1) (Ieee.double.binade + a % Ieee.double.binade) (Ieee.double.leastPlace + ((e - 1 : Nat) : Int))) = (a / Ieee.double.signWeight % 2) * 2147483648 + r := by
        have : FloatKind.f32.encode (.number (a / Ieee.double.signWeight % 2 == 1) (Ieee.double.binade + a % Ieee.double.binade) (Ieee.double.leastPlace + ((e - 1 : Nat) : Int))) = Ieee.single.word (a / Ieee.double.signWeight % 2 == 1) (min r Ieee.single.infRung) := hn
        rw [this, word_of, toNat_sign, hw, hi, Nat.min_eq_left (by omega)]
      have hk := h _ _ _ hr (by rw [henc]; omega)
      rw [henc, ← hrr] at hk
      exact hk
    · exact hs
noncomputable def narrowF (x : F64) : F32 := Option.rec none (fun a => narrowK a (narrow (some a)) fun w => some w) x
theorem narrowF_eq (x : F64) : narrowF x = narrow x := by
  cases x with
  | none => rfl
  | some a =>
    refine narrowK_eq rfl fun s m e hd _ => ?_
    simp only [narrow, hd]
    rfl
noncomputable def fitsF (x : F64) : Bool := Option.rec true (fun a => narrowK a (fits (some a)) fun _ => true) x
theorem fitsF_eq (x : F64) : fitsF x = fits x := by
  cases x with
  | none => rfl
  | some a =>
    refine narrowK_eq rfl fun s m e hd hle => ?_
    obtain ⟨w, hw⟩ : ∃ w, FloatKind.f32.encode (.number s m e) = w := ⟨_, rfl⟩
    have hi : Ieee.single.infRung = 2139095040 := by decide
    have hs : Ieee.single.signWeight = 2147483648 := by decide
    rw [hw] at hle
    obtain ⟨m', k, hr, _⟩ := read_fin Ieee.single (a := w) (by rw [hi, hs]; omega)
    have hr' : FloatKind.f32.decode w = .number (w / Ieee.single.signWeight % 2 == 1) m' (Ieee.single.leastPlace + (k : Int)) := hr
    simp only [fits, hd]
    rw [hw, hr']; rfl
/-- A 32-bit number widened. -/
noncomputable def widenK (a : Nat) (slow : Option Nat) : Option Nat := fc (Nat.mod (Nat.div a (nat_lit 8388608)) (nat_lit 256)) fun e =>
  pz (Nat.mul e (Nat.sub (nat_lit 255) e)) slow
  (fc (Nat.add (Nat.mul (Nat.mod (Nat.div a (nat_lit 2147483648)) (nat_lit 2)) (nat_lit 9223372036854775808)) (Nat.add (Nat.mul (Nat.add e (nat_lit 895)) (nat_lit 4503599627370496)) (Nat.mul (Nat.add (nat_lit 8388608) (Nat.mod a (nat_lit 8388608))) (nat_lit 536870912)))) fun w => some w)
theorem widenK_eq (a : Nat) (slow res : Option Nat) (hs : slow = res) (hr0 : res = widen (some a)) : widenK a slow = res := by
    unfold widenK
    simp only [fc_eq]
    rw [pz_eq]
    split
    · exact hs
    · rename_i hg
      obtain ⟨e, he⟩ : ∃ e, a / Ieee.single.binade % 2 ^ Ieee.single.exponentBits = e := ⟨_, rfl⟩
      have he2 : Nat.mod (Nat.div a (nat_lit 8388608)) (nat_lit 256) = e := he
      rw [he2] at hg ⊢
      have h1 : 1 ≤ e := Nat.pos_of_ne_zero fun h0 => hg (by rw [h0])
      have h2 : e < 255 := by
        refine Nat.lt_of_not_le fun h0 => hg ?_
        show _ * (255 - e) = 0
        rw [Nat.sub_eq_zero_of_le h0, Nat.mul_zero]
      have hn := widen_norm he h1 (by show e + 1 < 256; omega)
      have hr := read_norm Ieee.single he h1 (by show e + 1 < 256; omega)
      have m1 := Nat.mod_lt a (show 0 < Ieee.single.binade by decide)
      have hB : Ieee.single.binade = 2 ^ 23 := by decide
      rw [hB] at m1 hn hr
      obtain ⟨r, hrr⟩ : ∃ r, (e + 895) * 2 ^ 52 + (2 ^ 23 + a % 2 ^ 23) * 2 ^ 29 = r := ⟨_, rfl⟩
      have hlt : r < 2047 * 2 ^ 52 := by omega
      rw [hrr, hr] at hn
      have hn' : FloatKind.f64.encode (.number (a / Ieee.single.signWeight % 2 == 1) (2 ^ 23 + a % 2 ^ 23) (Ieee.single.leastPlace + ((e - 1 : Nat) : Int))) = Ieee.double.word (a / Ieee.single.signWeight % 2 == 1) r := hn
      have hd : FloatKind.f32.decode a = .number (a / Ieee.single.signWeight % 2 == 1) (2 ^ 23 + a % 2 ^ 23) (Ieee.single.leastPlace + ((e - 1 : Nat) : Int)) := hr
      have hS : Ieee.double.signWeight = 2 ^ 63 := by decide
      have hI : Ieee.double.infRung = 2047 * 2 ^ 52 := by decide
      have hfin : (FloatKind.f64.decode (Ieee.double.word (a / Ieee.single.signWeight % 2 == 1) r)).isInfinity = false := by
        have hmod : Ieee.double.word (a / Ieee.single.signWeight % 2 == 1) r % Ieee.double.signWeight = r := by
          rw [word_of, Nat.mul_comm, Nat.mul_add_mod, hS, Nat.mod_eq_of_lt (by omega)]
        obtain ⟨m', k, hr3, _⟩ := read_fin Ieee.double (a := Ieee.double.word (a / Ieee.single.signWeight % 2 == 1) r) (by rw [hmod, hI]; exact hlt)
        have hr4 : FloatKind.f64.decode (Ieee.double.word (a / Ieee.single.signWeight % 2 == 1) r) = _ := hr3
        rw [hr4]; rfl
      have hres : widen (some a) = some (Ieee.double.word (a / Ieee.single.signWeight % 2 == 1) r) := by
        simp only [widen, floatToFloatBits, hd, hn', hfin]
        rfl
      rw [hr0, hres, word_of, toNat_sign, hS, ← hrr]
      rfl
noncomputable def widenF (x : F32) : F64 := Option.rec none (fun a => widenK a (widen (some a))) x
theorem widenF_eq (x : F32) : widenF x = widen x := by
  cases x with
  | none => rfl
  | some a => exact widenK_eq a _ _ rfl rfl
end Go.Proofs.Ytlpahmefebgdlaa.Fx
