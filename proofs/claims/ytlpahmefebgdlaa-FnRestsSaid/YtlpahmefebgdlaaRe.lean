/- The law FnRests: what is mirrored, as the kernel reckons it fast. No condition. -/
import Derived.Test.YtlpahmefebgdlaaRd
namespace Go.Proofs.Ytlpahmefebgdlaa.Fx
open Go Fa

/-- What is mirrored: tests at both points. -/
noncomputable def c4aK (s x y n : F32) : Bool :=
  andK (saFitK s x y) (andK (saFitK s x n) (andK (paQK s x y) (andK (paQK s x n) (andK (saBK s x y) (andK (saBK s x n) (andK (paBK s x y) (andK (paBK s x n) (andK (beOkK s x y) (andK (beOkK s x n) (!(neS (paVK s x y) (paVK s x n))))))))))))
/-- The slope, mirrored. -/
noncomputable def c4bK (s x y n : F32) : Bool :=
  fo (saXK s x y) fun p => fo (saYK s x y) fun q => fo (subS (saXK s x n) p) fun dx => fo (subS (saYK s x n) (negS q)) fun dy =>
  andK (fitsF (longFK dx dy)) (andK (fitsF (longFK p q)) (!(gtD (widenF (longK dx dy)) (mulD milli (addD one (widenF (longK p q)))))))
/-- The bends, mirrored. -/
noncomputable def c4cK (s x y n : F32) : Bool :=
  andK (!(neS (bxxK s x y) (bxxK s x n))) (andK (!(neS (bxyK s x y) (negS (bxyK s x n)))) (!(neS (byyK s x y) (byyK s x n))))
/-- The speed. -/
noncomputable def c4dK (s x y : F32) : Bool :=
  andK (spQK s x y one32) (ifK (!(spB1K s x y one32)) (ltS (paVK s x y) (c32 1056964608))
    (fo (spV1K s x y one32) fun v => andK (coQK s x y v (c32 0)) (andK (coBK s x y v (c32 0)) (ltD (gapMK (widenF (coVK s x y v (c32 0))) one) (mulD milli (addD one (widenF (paVK s x y))))))))
noncomputable def c4K (s x y n : F32) : Bool := andK (c4aK s x y n) (andK (c4bK s x y n) (andK (c4cK s x y n) (c4dK s x y)))
theorem c4K_eq {s x y : F32} (h : c4K s x y (-y) = true) : rp4 s x y = Yes := by
  unfold c4K c4aK c4bK c4cK c4dK at h
  simp only [andK_eq, ifK_eq, fo_eq, Bool.and_eq_true, Bool.not_eq_true', saFitK_eq, paQK_eq, saBK_eq, paBK_eq, beOkK_eq, neS_eq, paVK_eq, saXK_eq, saYK_eq, subS_eq, negS_eq, fitsF_eq, longFK_eq, longK_eq, gtD_eq, widenF_eq, mulD_eq, addD_eq, bxxK_eq, bxyK_eq, byyK_eq, spQK_eq, spB1K_eq, ltS_eq, spV1K_eq, coQK_eq, coBK_eq, ltD_eq, gapMK_eq, coVK_eq] at h
  obtain ⟨⟨a1, a2, a3, a4, a5, a6, a7, a8, a9, a10, a11⟩, ⟨b1, b2, b3⟩, ⟨c1, c2, c3⟩, d1, d2⟩ := h
  unfold rp4
  rw [a1, a2, a3, a4, a5, a6, a7, a8, a9, a10, a11, b1, b2, b3, c1, c2, c3, d1]
  revert d2
  cases spB1 s x y one32 with
  | false => intro d2; exact congrArg (fun b => some (AV.c (.sb b))) d2
  | true =>
    intro d2
    have d3 := (Bool.and_eq_true _ _).mp d2
    have d4 := (Bool.and_eq_true _ _).mp d3.2
    show (bif coQ s x y (spV1 s x y one32) (c32 0) then _ else none) = Yes
    rw [d3.1, d4.1, d4.2]; rfl

noncomputable def rAtXK (b : Nat) : F32 := divS (i32 (IntKind.i64.wrap ((b : Int) - 16))) (c32 1090519040)
theorem rAtXK_eq (b : Nat) : rAtXK b = rAtX b := by unfold rAtXK rAtX; rw [divS_eq]
noncomputable def rAtYK (c : Nat) : F32 := divS (i32 (inc (c : Int))) (c32 1090519040)
theorem rAtYK_eq (c : Nat) : rAtYK c = rAtY c := by unfold rAtYK rAtY; rw [divS_eq]
noncomputable def atRow (a b n : Nat) : Bool := fo (rShareK a) fun s => fo (rAtXK b) fun x => allK n fun c => fo (rAtYK c) fun y => fo (negS y) fun n => c4K s x y n
theorem atRow_of {a b c n : Nat} (h : atRow a b n = true) (hc : c < n) : rp4 (rShare a) (rAtX b) (rAtY c) = Yes := by
  unfold atRow at h
  rw [fo_eq, fo_eq] at h
  have h' := allK_of h c hc
  rw [fo_eq, fo_eq, rShareK_eq, rAtXK_eq, rAtYK_eq, negS_eq] at h'
  exact c4K_eq h'
noncomputable def atBlock (a lo n m : Nat) : Bool := allK m fun i => atRow a (lo + i) n
theorem atBlock_of {a b c n m lo : Nat} (h : atBlock a lo n m = true) (hl : lo ≤ b) (hb : b < lo + m) (hc : c < n) : rp4 (rShare a) (rAtX b) (rAtY c) = Yes := by
  have h' := allK_of h (b - lo) (by omega)
  rw [show lo + (b - lo) = b by omega] at h'
  exact atRow_of h' hc
end Go.Proofs.Ytlpahmefebgdlaa.Fx
