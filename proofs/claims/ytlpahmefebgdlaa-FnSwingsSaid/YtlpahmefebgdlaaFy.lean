/- The model's conversions, roots and roundings of floats, up to the bits of not-a-numbers. No condition. -/
import Derived.Test.YtlpahmefebgdlaaFx
import Derived.Test.YtlpahmefebgdlaaNr
namespace Go.Proofs.Ytlpahmefebgdlaa.Fx
open Go

section
variable {P : Program}

theorem conv_cut (k : FloatKind) (x t : Nat) : Question.cut (.nanConv k x) t = nanW k t := by cases k <;> rfl

theorem run_widen {b : Nat} {x : F32} (h : Is .f32 b x) (w : World) :
    ∃ t n, (Conv.floatToFloat .f32 b .f64).run P w = .ok (.float .f64 (B (widen x) t)) (w.drewN n) := by
  obtain ⟨t, rfl⟩ := h
  have hnan : ∀ s f, FloatKind.f32.decode (B x t) = .nan s f → ∃ t' n, (Conv.floatToFloat .f32 (B x t) .f64).run P w = .ok (.float .f64 (@B .f64 none t')) (w.drewN n) := by
    intro s f hd
    refine ⟨w.tape w.drawn (.nanConv .f64 (B x t)), 1, ?_⟩
    have hn := conv_cut .f64 (B x t)
    simp only [Conv.floatToFloat, hd, reduceCtorEq, if_false, bind, pure, Sem.bind, choose, Sem.run, Question.forced, hn]
    rfl
  cases x with
  | none =>
    obtain ⟨s, f, hd⟩ := read_nanW .f32 t
    exact hnan s f hd
  | some r =>
    cases hd : FloatKind.f32.decode r with
    | nan s f =>
      obtain ⟨t', n, h⟩ := hnan s f hd
      refine ⟨t', n, ?_⟩
      have : widen (some r) = none := by simp only [widen, floatToFloatBits, hd]; rfl
      rw [this]; exact h
    | infinity s =>
      refine ⟨0, 0, ?_⟩
      have h : floatToFloatBits .f32 r .f64 = some (FloatKind.f64.encode (.infinity s)) := by simp [floatToFloatBits, hd]
      have hr := run_floatToFloat (P := P) w h
      have e : widen (some r) = some (FloatKind.f64.encode (.infinity s)) := h
      rw [e]; exact hr
    | number s m e =>
      refine ⟨0, 0, ?_⟩
      obtain ⟨m', e', h'⟩ := Nr.widen_number hd
      have hi : (FloatKind.f64.decode (FloatKind.f64.encode (.number s m e))).isInfinity = false := by
        show (Ieee.double.read (Ieee.double.write (.number s m e))).isInfinity = false
        rw [h']; rfl
      have h : floatToFloatBits .f32 r .f64 = some (FloatKind.f64.encode (.number s m e)) := by simp [floatToFloatBits, hd, hi]
      have hr := run_floatToFloat (P := P) w h
      have e : widen (some r) = some (FloatKind.f64.encode (.number s m e)) := h
      rw [e]; exact hr

theorem run_narrow {b : Nat} {x : F64} (h : Is .f64 b x) (hf : fits x = true) (w : World) :
    ∃ t n, (Conv.floatToFloat .f64 b .f32).run P w = .ok (.float .f32 (B (narrow x) t)) (w.drewN n) := by
  obtain ⟨t, rfl⟩ := h
  have hnan : ∀ s f, FloatKind.f64.decode (B x t) = .nan s f → ∃ t' n, (Conv.floatToFloat .f64 (B x t) .f32).run P w = .ok (.float .f32 (@B .f32 none t')) (w.drewN n) := by
    intro s f hd
    refine ⟨w.tape w.drawn (.nanConv .f32 (B x t)), 1, ?_⟩
    have hn := conv_cut .f32 (B x t)
    simp only [Conv.floatToFloat, hd, reduceCtorEq, if_false, bind, pure, Sem.bind, choose, Sem.run, Question.forced, hn]
    rfl
  cases x with
  | none =>
    obtain ⟨s, f, hd⟩ := read_nanW .f64 t
    exact hnan s f hd
  | some r =>
    cases hd : FloatKind.f64.decode r with
    | nan s f =>
      obtain ⟨t', n, h⟩ := hnan s f hd
      refine ⟨t', n, ?_⟩
      have : narrow (some r) = none := by simp only [narrow, hd]; rfl
      rw [this]; exact h
    | infinity s =>
      refine ⟨0, 0, ?_⟩
      have h : floatToFloatBits .f64 r .f32 = some (FloatKind.f32.encode (.infinity s)) := by simp [floatToFloatBits, hd]
      have hr := run_floatToFloat (P := P) w h
      have e : narrow (some r) = some (FloatKind.f32.encode (.infinity s)) := by simp only [narrow, hd]; rfl
      rw [e]; exact hr
    | number s m e =>
      refine ⟨0, 0, ?_⟩
      have hi : (FloatKind.f32.decode (FloatKind.f32.encode (.number s m e))).isInfinity = false := by simpa [fits, hd] using hf
      have h : floatToFloatBits .f64 r .f32 = some (FloatKind.f32.encode (.number s m e)) := by simp [floatToFloatBits, hd, hi]
      have hr := run_floatToFloat (P := P) w h
      have e : narrow (some r) = some (FloatKind.f32.encode (.number s m e)) := by simp only [narrow, hd]; rfl
      rw [e]; exact hr

theorem B_some {k : FloatKind} (r t : Nat) : @B k (some r) t = r := rfl
theorem B_none {k : FloatKind} (t : Nat) : @B k none t = nanW k t := rfl
theorem sqrt_some (r : Nat) : sqrt (some r) = FloatKind.f64.format.sqrt r := by unfold sqrt; rfl
theorem sqrt_none : sqrt none = none := rfl

theorem run_sqrt {b : Nat} {x : F64} (h : Is .f64 b x) (w : World) :
    ∃ t n, (Extern.MathSqrt.sqrt #[.float .f64 b]).run P w = .ok (.float .f64 (B (sqrt x) t)) (w.drewN n) := by
  obtain ⟨t, rfl⟩ := h
  have hn := nan_cut .f64 (B x t) (B x t)
  have hs : FloatKind.f64.format.sqrt (B x t) = sqrt x := by
    cases x with
    | none =>
      obtain ⟨s, f, hd⟩ := read_nanW .f64 t
      rw [B_none, sqrt_none, Ieee.Format.sqrt, hd, Ieee.Datum.root]; rfl
    | some r => rw [B_some, sqrt_some]
  have hdef : ∀ b, Extern.MathSqrt.sqrt #[.float .f64 b] = (match FloatKind.f64.format.sqrt b with
    | some r => pure (.float .f64 r)
    | none => do pure (.float .f64 (← choose (.nanBits .f64 b b)))) := fun _ => rfl
  rw [hdef, hs]
  cases hx : sqrt x with
  | some r => exact ⟨0, 0, rfl⟩
  | none =>
    refine ⟨w.tape w.drawn (.nanBits .f64 (B x t) (B x t)), 1, ?_⟩
    simp only [bind, pure, Sem.bind, choose, Sem.run, Question.forced, hn]
    rfl

theorem run_whole (name : String) (way : Ieee.Toward) {b : Nat} {x : F64} (hb : b < 2 ^ 64) (h : Is .f64 b x) (w : World) :
    ∃ t n, (Extern.MathFloor.toIntegral name way #[.float .f64 b]).run P w = .ok (.float .f64 (B (whole way x) t)) (w.drewN n) := by
  obtain ⟨t, rfl⟩ := h
  have hdef : ∀ b, Extern.MathFloor.toIntegral name way #[.float .f64 b] = (match FloatKind.f64.decode b with
    | .nan s t =>
      if FloatKind.f64.format.quiet t = t then pure (.float .f64 b) else do
      let kept ← choose (.extern "math.Floor,Ceil,Trunc,RoundToEven.signallingNaN kept" 2)
      pure (.float .f64 (if kept == 1 then b else FloatKind.f64.encode (.nan s (FloatKind.f64.format.quiet t))))
    | d => pure (.float .f64 (FloatKind.f64.encode (d.integral way)))) := fun _ => rfl
  have hnan : ∀ s f, FloatKind.f64.decode (B x t) = .nan s f → ∃ t' n, (Extern.MathFloor.toIntegral name way #[.float .f64 (B x t)]).run P w = .ok (.float .f64 (@B .f64 none t')) (w.drewN n) := by
    intro s f hd
    obtain ⟨t0, h0⟩ := nan_form (k := .f64) (b := B x t) hd hb
    by_cases hq : FloatKind.f64.format.quiet f = f
    · refine ⟨t0, 0, ?_⟩
      rw [hdef]; simp only [hd, hq, if_true]
      rw [h0]; rfl
    · have hlt := FloatKind.f64.format.write_lt (.nan s (FloatKind.f64.format.quiet f))
      have hf : f < 2 ^ 52 := by
        have hd' : FloatKind.f64.format.read (B x t) = .nan s f := hd
        unfold Ieee.Format.read at hd'
        dsimp only at hd'
        have e1 : FloatKind.f64.format.signWeight = 2 ^ 63 := by decide
        have e2 : FloatKind.f64.format.infRung = 0x7ff0000000000000 := by decide
        split at hd'
        · cases hd'
        · split at hd'
          · cases hd'
          · split at hd'
            · cases hd'
            · have := congrArg (fun d => match d with | Ieee.Datum.nan _ f => f | _ => 0) hd'
              dsimp only at this
              rw [e1, e2] at this
              omega
      have hq2 : FloatKind.f64.format.quiet f < 2 ^ 52 := Nat.or_lt_two_pow hf (by decide)
      have hq3 : FloatKind.f64.format.quiet f ≠ 0 := by
        have : (2 : Nat) ^ 51 ≤ FloatKind.f64.format.quiet f := Nat.right_le_or
        omega
      have hread : FloatKind.f64.format.read (FloatKind.f64.encode (.nan s (FloatKind.f64.format.quiet f))) = .nan s (FloatKind.f64.format.quiet f) := by
        have e1 : FloatKind.f64.format.signWeight = 2 ^ 63 := by decide
        have e2 : FloatKind.f64.format.infRung = 0x7ff0000000000000 := by decide
        have e3 : FloatKind.f64.format.binade = 2 ^ 52 := by decide
        show FloatKind.f64.format.read (FloatKind.f64.format.word s (FloatKind.f64.format.infRung + FloatKind.f64.format.quiet f % FloatKind.f64.format.binade)) = _
        rw [Nr.read_word _ _ (by rw [e1, e2, e3]; omega)]
        unfold Nr.readRung
        rw [e2, e3, Nat.mod_eq_of_lt hq2, if_neg (by omega), if_neg (by omega), if_neg (by omega)]
        rw [Nat.add_sub_cancel_left]
      obtain ⟨t1, h1⟩ := nan_form (k := .f64) hread hlt
      have h1' : FloatKind.f64.encode (.nan s (FloatKind.f64.format.quiet f)) = nanW .f64 t1 := h1
      rw [hdef]; simp only [hd, hq, if_false, bind, pure, Sem.bind, choose, Sem.run]
      by_cases hk : (Question.cut (.extern "math.Floor,Ceil,Trunc,RoundToEven.signallingNaN kept" 2) (w.tape w.drawn (.extern "math.Floor,Ceil,Trunc,RoundToEven.signallingNaN kept" 2)) == 1) = true
      · refine ⟨t0, 1, ?_⟩
        simp only [Question.forced, hk, if_true]
        rw [← show B x t = @B .f64 none t0 from h0]; rfl
      · refine ⟨t1, 1, ?_⟩
        simp only [Question.forced, hk]
        rw [← show FloatKind.f64.encode (.nan s (FloatKind.f64.format.quiet f)) = @B .f64 none t1 from h1']; rfl
  cases x with
  | none =>
    obtain ⟨s, f, hd⟩ := read_nanW .f64 t
    exact hnan s f hd
  | some r =>
    cases hd : FloatKind.f64.decode r with
    | nan s f =>
      obtain ⟨t', n, h⟩ := hnan s f hd
      refine ⟨t', n, ?_⟩
      have : whole way (some r) = none := by simp only [whole, hd]; rfl
      rw [this]; exact h
    | infinity s =>
      refine ⟨0, 0, ?_⟩
      have e : whole way (some r) = some (FloatKind.f64.encode ((Ieee.Datum.infinity s).integral way)) := by simp only [whole, hd]; rfl
      rw [e, hdef]
      simp only [B, hd]; rfl
    | number s m e' =>
      refine ⟨0, 0, ?_⟩
      have e : whole way (some r) = some (FloatKind.f64.encode ((Ieee.Datum.number s m e').integral way)) := by simp only [whole, hd]; rfl
      rw [e, hdef]
      simp only [B, hd]; rfl
end

/-- A word is within its width. -/
def Wd (k : FloatKind) (b : Nat) : Prop := b < 2 ^ k.format.width

theorem wd_none (k : FloatKind) (t : Nat) : Wd k (@B k none t) := nanW_lt k t

theorem wd_of {k : FloatKind} {x : Fl k} (h : ∀ r, x = some r → r < 2 ^ k.format.width) (t : Nat) : Wd k (B x t) := by
  cases x with
  | none => exact wd_none k t
  | some r => exact h r rfl

theorem wd_bin {k : FloatKind} (op : BinOp) (x y : Fl k) (t : Nat) : Wd k (B (bin op x y) t) := by
  refine wd_of (fun r hr => ?_) t
  cases x with
  | none => cases hr
  | some a => cases y with
    | none => cases hr
    | some b =>
      have hr' : floatBits op k a b = some r := hr
      unfold floatBits at hr'
      split at hr'
      · exact k.format.add_lt hr'
      · exact k.format.sub_lt hr'
      · exact k.format.mul_lt hr'
      · exact k.format.div_lt hr'
      · cases hr'

theorem width_eq (k : FloatKind) : 2 ^ k.format.width = 2 * 2 ^ (k.format.exponentBits + k.format.fractionBits) := by
  cases k <;> decide

theorem wd_neg {k : FloatKind} {x : Fl k} (h : ∀ t, Wd k (B x t)) (s : Nat) : Wd k (B (neg x) s) := by
  refine wd_of (fun r hr => ?_) s
  cases x with
  | none => cases hr
  | some a =>
    have hr' : Op.negFloat k a = r := Option.some.inj (show some (Op.negFloat k a) = some r from hr)
    have ha : a < 2 ^ k.format.width := h 0
    rw [← hr']
    exact Nat.xor_lt_two_pow ha (by rw [width_eq]; have := Nat.two_pow_pos (k.format.exponentBits + k.format.fractionBits); omega)

theorem wd_all {k : FloatKind} {x : Fl k} {t : Nat} (h : Wd k (B x t)) (s : Nat) : Wd k (B x s) := by
  cases x with
  | none => exact wd_none k s
  | some a => exact h

theorem wd_widen (x : F32) (t : Nat) : Wd .f64 (B (widen x) t) := by
  refine wd_of (fun r hr => ?_) t
  cases x with
  | none => cases hr
  | some a =>
    have hr' : floatToFloatBits .f32 a .f64 = some r := hr
    unfold floatToFloatBits at hr'
    split at hr'
    · rename_i e; cases e
    · split at hr'
      · cases hr'
      · cases hr'; exact FloatKind.f64.format.write_lt _
      · split at hr'
        · cases hr'
        · cases hr'; exact FloatKind.f64.format.write_lt _

theorem wd_narrow (x : F64) (t : Nat) : Wd .f32 (B (narrow x) t) := by
  refine wd_of (fun r hr => ?_) t
  cases x with
  | none => cases hr
  | some a =>
    cases hd : FloatKind.f64.decode a with
    | nan s f => simp only [narrow, hd] at hr; cases hr
    | _ => simp only [narrow, hd] at hr; cases Option.some.inj hr; exact FloatKind.f32.format.write_lt _

theorem wd_sqrt (x : F64) (t : Nat) : Wd .f64 (B (sqrt x) t) := by
  refine wd_of (fun r hr => ?_) t
  cases x with
  | none => cases hr
  | some a => rw [sqrt_some] at hr; exact FloatKind.f64.format.sqrt_lt hr

theorem wd_whole (way : Ieee.Toward) (x : F64) (t : Nat) : Wd .f64 (B (whole way x) t) := by
  refine wd_of (fun r hr => ?_) t
  cases x with
  | none => cases hr
  | some a =>
    cases hd : FloatKind.f64.decode a with
    | nan s f => simp only [whole, hd] at hr; cases hr
    | _ => simp only [whole, hd] at hr; cases Option.some.inj hr; exact FloatKind.f64.format.write_lt _

end Go.Proofs.Ytlpahmefebgdlaa.Fx
