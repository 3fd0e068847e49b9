/- Frames, slopes, pushes, sways as the kernel reckons them fast. No condition. -/
import Derived.Test.YtlpahmefebgdlaaFe
import Derived.Test.YtlpahmefebgdlaaRa
namespace Go.Proofs.Ytlpahmefebgdlaa.Fx
open Go Fa

noncomputable def ifK {α : Type} (c : Bool) (a b : α) : α := bb c a b
theorem ifK_eq {α : Type} (c : Bool) (a b : α) : ifK c a b = bif c then a else b := bb_cond c a b
noncomputable def andK (a b : Bool) : Bool := bb a b false
theorem andK_eq (a b : Bool) : andK a b = (a && b) := by cases a <;> rfl
noncomputable def orK (a b : Bool) : Bool := bb a true b
theorem orK_eq (a b : Bool) : orK a b = (a || b) := by cases a <;> rfl
theorem fmax_lt {x y : F64} (h : lt x y = true) : fmax x y = y := by
  cases x with
  | none => cases h
  | some a => cases y with
    | none => cases h
    | some b =>
      have h' : (FloatKind.f64.format.order a b == some .lt) = true := h
      rw [beq_iff_eq] at h'
      rw [fmax_some, h']; rfl
theorem fmax_gt {x y : F64} (h : gt x y = true) : fmax x y = x := by
  cases x with
  | none => cases h
  | some a => cases y with
    | none => cases h
    | some b =>
      have h' : (FloatKind.f64.format.order a b == some .gt) = true := h
      rw [beq_iff_eq] at h'
      rw [fmax_some, h']; rfl
noncomputable def fmaxD (x y : F64) : F64 := bb (ltD x y) y (bb (gtD x y) x (fmax x y))
theorem fmaxD_eq (x y : F64) : fmaxD x y = fmax x y := by
  unfold fmaxD
  rw [bb_cond, bb_cond, ltD_eq, gtD_eq]
  cases h : lt x y with
  | true => exact (fmax_lt h).symm
  | false => cases h' : gt x y with
    | true => exact (fmax_gt h').symm
    | false => rfl

noncomputable def fdxK (s : F32) (x : F32) : F32 := (subS x (negS s))
theorem fdxK_eq (s : F32) (x : F32) : fdxK s x = fdx s x := by unfold fdxK fdx; simp only [subS_eq, negS_eq]
noncomputable def fyK (y : F32) : F32 := (subS y (c32 0))
theorem fyK_eq (y : F32) : fyK y = fy y := by unfold fyK fy; simp only [subS_eq]
noncomputable def powerWK (x : F32) (y : F32) : F64 := (addD (mulD (widenF x) (widenF x)) (mulD (widenF y) (widenF y)))
theorem powerWK_eq (x : F32) (y : F32) : powerWK x y = powerW x y := by unfold powerWK powerW; simp only [addD_eq, mulD_eq, widenF_eq]
noncomputable def longFK (x : F32) (y : F32) : F64 := (sqrtD (powerWK x y))
theorem longFK_eq (x : F32) (y : F32) : longFK x y = longF x y := by unfold longFK longF; simp only [sqrtD_eq, powerWK_eq]
noncomputable def longK (x : F32) (y : F32) : F32 := (narrowF (longFK x y))
theorem longK_eq (x : F32) (y : F32) : longK x y = long x y := by unfold longK long; simp only [narrowF_eq, longFK_eq]
noncomputable def frK (s : F32) (x : F32) (y : F32) : F32 := (longK (fdxK s x) (fyK y))
theorem frK_eq (s : F32) (x : F32) (y : F32) : frK s x y = fr s x y := by unfold frK fr; simp only [fdxK_eq, fyK_eq, longK_eq]
noncomputable def cubeK (x : F32) : F32 := (mulS (mulS x x) x)
theorem cubeK_eq (x : F32) : cubeK x = cube x := by unfold cubeK cube; simp only [mulS_eq]
noncomputable def ffK (s : F32) (x : F32) (y : F32) : F32 := (divS (subS one32 s) (cubeK (frK s x y)))
theorem ffK_eq (s : F32) (x : F32) (y : F32) : ffK s x y = ff s x y := by unfold ffK ff; simp only [subS_eq, divS_eq, cubeK_eq, frK_eq]
noncomputable def fexK (s : F32) (x : F32) : F32 := (subS x (subS one32 s))
theorem fexK_eq (s : F32) (x : F32) : fexK s x = fex s x := by unfold fexK fex; simp only [subS_eq]
noncomputable def fsK (s : F32) (x : F32) (y : F32) : F32 := (longK (fexK s x) (fyK y))
theorem fsK_eq (s : F32) (x : F32) (y : F32) : fsK s x y = fs s x y := by unfold fsK fs; simp only [fexK_eq, fyK_eq, longK_eq]
noncomputable def fgK (s : F32) (x : F32) (y : F32) : F32 := (divS s (cubeK (fsK s x y)))
theorem fgK_eq (s : F32) (x : F32) (y : F32) : fgK s x y = fg s x y := by unfold fgK fg; simp only [divS_eq, cubeK_eq, fsK_eq]
noncomputable def slXK (s : F32) (x : F32) (y : F32) : F32 := (subS (subS x (mulS (fdxK s x) (ffK s x y))) (mulS (fexK s x) (fgK s x y)))
theorem slXK_eq (s : F32) (x : F32) (y : F32) : slXK s x y = slX s x y := by unfold slXK slX; simp only [subS_eq, mulS_eq, fdxK_eq, fexK_eq, ffK_eq, fgK_eq]
noncomputable def slYK (s : F32) (x : F32) (y : F32) : F32 := (subS (subS y (mulS (fyK y) (ffK s x y))) (mulS (fyK y) (fgK s x y)))
theorem slYK_eq (s : F32) (x : F32) (y : F32) : slYK s x y = slY s x y := by unfold slYK slY; simp only [subS_eq, mulS_eq, ffK_eq, fgK_eq, fyK_eq]
noncomputable def finSK (x : F32) : Bool := (eqS (subS x x) (c32 0))
theorem finSK_eq (x : F32) : finSK x = finS x := by unfold finSK finS; simp only [subS_eq, eqS_eq]
noncomputable def cfinK (x : F32) (y : F32) : Bool := (andK (finSK x) (finSK y))
theorem cfinK_eq (x : F32) (y : F32) : cfinK x y = cfin x y := by unfold cfinK cfin; simp only [andK_eq, finSK_eq]
noncomputable def slFinK (s : F32) (x : F32) (y : F32) : Bool := (cfinK (slXK s x y) (slYK s x y))
theorem slFinK_eq (s : F32) (x : F32) (y : F32) : slFinK s x y = slFin s x y := by unfold slFinK slFin; simp only [cfinK_eq, slXK_eq, slYK_eq]
noncomputable def isShareK (x : F32) : Bool := (andK (gtS x (c32 0)) (leS x (c32 1056964608)))
theorem isShareK_eq (x : F32) : isShareK x = isShare x := by unfold isShareK isShare; simp only [andK_eq, leS_eq, gtS_eq]
noncomputable def isPtK (s : F32) (x : F32) (y : F32) : Bool := (andK (isShareK s) (cfinK x y))
theorem isPtK_eq (s : F32) (x : F32) (y : F32) : isPtK s x y = isPt s x y := by unfold isPtK isPt; simp only [andK_eq, cfinK_eq, isShareK_eq]
noncomputable def tcXK (x : F32) (y : F32) : F32 := (ifK (cfinK x y) x (c32 0))
theorem tcXK_eq (x : F32) (y : F32) : tcXK x y = tcX x y := by unfold tcXK tcX; simp only [ifK_eq, cfinK_eq]
noncomputable def saXK (s : F32) (x : F32) (y : F32) : F32 := (ifK (isPtK s x y) (tcXK (slXK s x y) (slYK s x y)) (c32 0))
theorem saXK_eq (s : F32) (x : F32) (y : F32) : saXK s x y = saX s x y := by unfold saXK saX; simp only [ifK_eq, isPtK_eq, slXK_eq, slYK_eq, tcXK_eq]
noncomputable def tcYK (x : F32) (y : F32) : F32 := (ifK (cfinK x y) y (c32 0))
theorem tcYK_eq (x : F32) (y : F32) : tcYK x y = tcY x y := by unfold tcYK tcY; simp only [ifK_eq, cfinK_eq]
noncomputable def saYK (s : F32) (x : F32) (y : F32) : F32 := (ifK (isPtK s x y) (tcYK (slXK s x y) (slYK s x y)) (c32 0))
theorem saYK_eq (s : F32) (x : F32) (y : F32) : saYK s x y = saY s x y := by unfold saYK saY; simp only [ifK_eq, isPtK_eq, slXK_eq, slYK_eq, tcYK_eq]
noncomputable def saBK (s : F32) (x : F32) (y : F32) : Bool := (andK (isPtK s x y) (slFinK s x y))
theorem saBK_eq (s : F32) (x : F32) (y : F32) : saBK s x y = saB s x y := by unfold saBK saB; simp only [andK_eq, isPtK_eq, slFinK_eq]
noncomputable def vShipK (x : F32) (y : F32) (u : F32) (v : F32) : Bool := (andK (cfinK x y) (cfinK u v))
theorem vShipK_eq (x : F32) (y : F32) (u : F32) (v : F32) : vShipK x y u v = vShip x y u v := by unfold vShipK vShip; simp only [andK_eq, cfinK_eq]
noncomputable def puOkK (s : F32) (x : F32) (y : F32) (u : F32) (v : F32) : Bool := (andK (saBK s x y) (vShipK x y u v))
theorem puOkK_eq (s : F32) (x : F32) (y : F32) (u : F32) (v : F32) : puOkK s x y u v = puOk s x y u v := by unfold puOkK puOk; simp only [andK_eq, saBK_eq, vShipK_eq]
noncomputable def puXK (s : F32) (x : F32) (y : F32) (v : F32) : F32 := (addS (saXK s x y) (mulS two32 v))
theorem puXK_eq (s : F32) (x : F32) (y : F32) (v : F32) : puXK s x y v = puX s x y v := by unfold puXK puX; simp only [addS_eq, mulS_eq, saXK_eq]
noncomputable def puYK (s : F32) (x : F32) (y : F32) (u : F32) : F32 := (addS (saYK s x y) (mulS (c32 3221225472) u))
theorem puYK_eq (s : F32) (x : F32) (y : F32) (u : F32) : puYK s x y u = puY s x y u := by unfold puYK puY; simp only [addS_eq, mulS_eq, saYK_eq]
noncomputable def puvXK (s : F32) (x : F32) (y : F32) : F32 := (ifK (puOkK s x y (c32 0) (c32 0)) (tcXK (puXK s x y (c32 0)) (puYK s x y (c32 0))) (c32 0))
theorem puvXK_eq (s : F32) (x : F32) (y : F32) : puvXK s x y = puvX s x y := by unfold puvXK puvX; simp only [ifK_eq, puOkK_eq, puXK_eq, puYK_eq, tcXK_eq]
noncomputable def puvYK (s : F32) (x : F32) (y : F32) : F32 := (ifK (puOkK s x y (c32 0) (c32 0)) (tcYK (puXK s x y (c32 0)) (puYK s x y (c32 0))) (c32 0))
theorem puvYK_eq (s : F32) (x : F32) (y : F32) : puvYK s x y = puvY s x y := by unfold puvYK puvY; simp only [ifK_eq, puOkK_eq, puXK_eq, puYK_eq, tcYK_eq]
noncomputable def puvBK (s : F32) (x : F32) (y : F32) : Bool := (andK (puOkK s x y (c32 0) (c32 0)) (cfinK (puXK s x y (c32 0)) (puYK s x y (c32 0))))
theorem puvBK_eq (s : F32) (x : F32) (y : F32) : puvBK s x y = puvB s x y := by unfold puvBK puvB; simp only [andK_eq, cfinK_eq, puOkK_eq, puXK_eq, puYK_eq]
noncomputable def frFitK (s : F32) (x : F32) (y : F32) : Bool := (andK (fitsF (longFK (fdxK s x) (fyK y))) (fitsF (longFK (fexK s x) (fyK y))))
theorem frFitK_eq (s : F32) (x : F32) (y : F32) : frFitK s x y = frFit s x y := by unfold frFitK frFit; simp only [andK_eq, fitsF_eq, fdxK_eq, fexK_eq, fyK_eq, longFK_eq]
noncomputable def saFitK (s : F32) (x : F32) (y : F32) : Bool := (orK (!(isPtK s x y)) (frFitK s x y))
theorem saFitK_eq (s : F32) (x : F32) (y : F32) : saFitK s x y = saFit s x y := by unfold saFitK saFit; simp only [orK_eq, frFitK_eq, isPtK_eq]
noncomputable def coOkK (s : F32) (x : F32) (y : F32) (u : F32) (v : F32) : Bool := (andK (isShareK s) (vShipK x y u v))
theorem coOkK_eq (s : F32) (x : F32) (y : F32) (u : F32) (v : F32) : coOkK s x y u v = coOk s x y u v := by unfold coOkK coOk; simp only [andK_eq, isShareK_eq, vShipK_eq]
noncomputable def potFitK (s : F32) (x : F32) (y : F32) : Bool := (andK (frFitK s x y) (fitsF (powerWK x y)))
theorem potFitK_eq (s : F32) (x : F32) (y : F32) : potFitK s x y = potFit s x y := by unfold potFitK potFit; simp only [andK_eq, fitsF_eq, frFitK_eq, powerWK_eq]
noncomputable def coQK (s : F32) (x : F32) (y : F32) (u : F32) (v : F32) : Bool := (orK (!(coOkK s x y u v)) (andK (potFitK s x y) (fitsF (powerWK u v))))
theorem coQK_eq (s : F32) (x : F32) (y : F32) (u : F32) (v : F32) : coQK s x y u v = coQ s x y u v := by unfold coQK coQ; simp only [andK_eq, orK_eq, fitsF_eq, coOkK_eq, potFitK_eq, powerWK_eq]
noncomputable def powNK (x : F32) (y : F32) : F32 := (narrowF (powerWK x y))
theorem powNK_eq (x : F32) (y : F32) : powNK x y = powN x y := by unfold powNK powN; simp only [narrowF_eq, powerWK_eq]
noncomputable def potWK (x : F32) (y : F32) (r : F32) (s : F32) (a : F32) (b : F32) : F32 := (addS (addS (mulS (c32 1056964608) (powNK x y)) (divS a r)) (divS b s))
theorem potWK_eq (x : F32) (y : F32) (r : F32) (s : F32) (a : F32) (b : F32) : potWK x y r s a b = potW x y r s a b := by unfold potWK potW; simp only [addS_eq, mulS_eq, divS_eq, powNK_eq]
noncomputable def potK (s : F32) (x : F32) (y : F32) : F32 := (potWK x y (frK s x y) (fsK s x y) (subS one32 s) s)
theorem potK_eq (s : F32) (x : F32) (y : F32) : potK s x y = pot s x y := by unfold potK pot; simp only [subS_eq, frK_eq, fsK_eq, potWK_eq]
noncomputable def coWK (s : F32) (x : F32) (y : F32) (u : F32) (v : F32) : F32 := (subS (mulS two32 (potK s x y)) (powNK u v))
theorem coWK_eq (s : F32) (x : F32) (y : F32) (u : F32) (v : F32) : coWK s x y u v = coW s x y u v := by unfold coWK coW; simp only [subS_eq, mulS_eq, potK_eq, powNK_eq]
noncomputable def giveVK (x : F32) : F32 := (ifK (!(finSK x)) (c32 0) x)
theorem giveVK_eq (x : F32) : giveVK x = giveV x := by unfold giveVK giveV; simp only [ifK_eq, finSK_eq]
noncomputable def coVK (s : F32) (x : F32) (y : F32) (u : F32) (v : F32) : F32 := (ifK (coOkK s x y u v) (giveVK (coWK s x y u v)) (c32 0))
theorem coVK_eq (s : F32) (x : F32) (y : F32) (u : F32) (v : F32) : coVK s x y u v = coV s x y u v := by unfold coVK coV; simp only [ifK_eq, coOkK_eq, coWK_eq, giveVK_eq]
noncomputable def giveBK (x : F32) : Bool := (ifK (!(finSK x)) false true)
theorem giveBK_eq (x : F32) : giveBK x = giveB x := by unfold giveBK giveB; simp only [ifK_eq, finSK_eq]
noncomputable def coBK (s : F32) (x : F32) (y : F32) (u : F32) (v : F32) : Bool := (ifK (coOkK s x y u v) (giveBK (coWK s x y u v)) false)
theorem coBK_eq (s : F32) (x : F32) (y : F32) (u : F32) (v : F32) : coBK s x y u v = coB s x y u v := by unfold coBK coB; simp only [ifK_eq, coOkK_eq, coWK_eq, giveBK_eq]
noncomputable def paQK (s : F32) (x : F32) (y : F32) : Bool := (orK (!(isPtK s x y)) (potFitK s x y))
theorem paQK_eq (s : F32) (x : F32) (y : F32) : paQK s x y = paQ s x y := by unfold paQK paQ; simp only [orK_eq, isPtK_eq, potFitK_eq]
noncomputable def paVK (s : F32) (x : F32) (y : F32) : F32 := (ifK (isPtK s x y) (giveVK (potK s x y)) (c32 0))
theorem paVK_eq (s : F32) (x : F32) (y : F32) : paVK s x y = paV s x y := by unfold paVK paV; simp only [ifK_eq, giveVK_eq, isPtK_eq, potK_eq]
noncomputable def paBK (s : F32) (x : F32) (y : F32) : Bool := (ifK (isPtK s x y) (giveBK (potK s x y)) false)
theorem paBK_eq (s : F32) (x : F32) (y : F32) : paBK s x y = paB s x y := by unfold paBK paB; simp only [ifK_eq, giveBK_eq, isPtK_eq, potK_eq]
noncomputable def bendK (f : F32) (p : F32) (q : F32) (r : F32) : F32 := (divS (mulS (mulS (mulS (c32 1077936128) f) p) q) (mulS r r))
theorem bendK_eq (f : F32) (p : F32) (q : F32) (r : F32) : bendK f p q r = bend f p q r := by unfold bendK bend; simp only [mulS_eq, divS_eq]
noncomputable def beXXK (s : F32) (x : F32) (y : F32) : F32 := (addS (addS (subS (subS one32 (ffK s x y)) (fgK s x y)) (bendK (ffK s x y) (fdxK s x) (fdxK s x) (frK s x y))) (bendK (fgK s x y) (fexK s x) (fexK s x) (fsK s x y)))
theorem beXXK_eq (s : F32) (x : F32) (y : F32) : beXXK s x y = beXX s x y := by unfold beXXK beXX; simp only [addS_eq, subS_eq, bendK_eq, fdxK_eq, fexK_eq, ffK_eq, fgK_eq, frK_eq, fsK_eq]
noncomputable def beXYK (s : F32) (x : F32) (y : F32) : F32 := (addS (bendK (ffK s x y) (fdxK s x) (fyK y) (frK s x y)) (bendK (fgK s x y) (fexK s x) (fyK y) (fsK s x y)))
theorem beXYK_eq (s : F32) (x : F32) (y : F32) : beXYK s x y = beXY s x y := by unfold beXYK beXY; simp only [addS_eq, bendK_eq, fdxK_eq, fexK_eq, ffK_eq, fgK_eq, frK_eq, fsK_eq, fyK_eq]
noncomputable def beYYK (s : F32) (x : F32) (y : F32) : F32 := (addS (addS (subS (subS one32 (ffK s x y)) (fgK s x y)) (bendK (ffK s x y) (fyK y) (fyK y) (frK s x y))) (bendK (fgK s x y) (fyK y) (fyK y) (fsK s x y)))
theorem beYYK_eq (s : F32) (x : F32) (y : F32) : beYYK s x y = beYY s x y := by unfold beYYK beYY; simp only [addS_eq, subS_eq, bendK_eq, ffK_eq, fgK_eq, frK_eq, fsK_eq, fyK_eq]
noncomputable def beFK (s : F32) (x : F32) (y : F32) : Bool := (andK (andK (finSK (beXXK s x y)) (finSK (beXYK s x y))) (finSK (beYYK s x y)))
theorem beFK_eq (s : F32) (x : F32) (y : F32) : beFK s x y = beF s x y := by unfold beFK beF; rw [idx3_eq]; simp only [andK_eq, beXXK_eq, beXYK_eq, beYYK_eq, finSK_eq]
noncomputable def beOkK (s : F32) (x : F32) (y : F32) : Bool := (andK (isPtK s x y) (beFK s x y))
theorem beOkK_eq (s : F32) (x : F32) (y : F32) : beOkK s x y = beOk s x y := by unfold beOkK beOk; simp only [andK_eq, beFK_eq, isPtK_eq]
noncomputable def bxxK (s : F32) (x : F32) (y : F32) : F32 := (ifK (beOkK s x y) (beXXK s x y) (c32 0))
theorem bxxK_eq (s : F32) (x : F32) (y : F32) : bxxK s x y = bxx s x y := by unfold bxxK bxx; simp only [ifK_eq, beOkK_eq, beXXK_eq]
noncomputable def bxyK (s : F32) (x : F32) (y : F32) : F32 := (ifK (beOkK s x y) (beXYK s x y) (c32 0))
theorem bxyK_eq (s : F32) (x : F32) (y : F32) : bxyK s x y = bxy s x y := by unfold bxyK bxy; simp only [ifK_eq, beOkK_eq, beXYK_eq]
noncomputable def byyK (s : F32) (x : F32) (y : F32) : F32 := (ifK (beOkK s x y) (beYYK s x y) (c32 0))
theorem byyK_eq (s : F32) (x : F32) (y : F32) : byyK s x y = byy s x y := by unfold byyK byy; simp only [ifK_eq, beOkK_eq, beYYK_eq]
noncomputable def spOkK (s : F32) (x : F32) (y : F32) (c : F32) : Bool := (andK (isPtK s x y) (isFinK c))
theorem spOkK_eq (s : F32) (x : F32) (y : F32) (c : F32) : spOkK s x y c = spOk s x y c := by unfold spOkK spOk; simp only [andK_eq, isFinK_eq, isPtK_eq]
noncomputable def spWK (s : F32) (x : F32) (y : F32) (c : F32) : F32 := (subS (mulS two32 (potK s x y)) c)
theorem spWK_eq (s : F32) (x : F32) (y : F32) (c : F32) : spWK s x y c = spW s x y c := by unfold spWK spW; simp only [subS_eq, mulS_eq, potK_eq]
noncomputable def spFitK (s : F32) (x : F32) (y : F32) (c : F32) : Bool := (andK (potFitK s x y) (fitsF (sqrtD (widenF (spWK s x y c)))))
theorem spFitK_eq (s : F32) (x : F32) (y : F32) (c : F32) : spFitK s x y c = spFit s x y c := by unfold spFitK spFit; simp only [andK_eq, sqrtD_eq, widenF_eq, fitsF_eq, potFitK_eq, spWK_eq]
noncomputable def spQK (s : F32) (x : F32) (y : F32) (c : F32) : Bool := (orK (!(spOkK s x y c)) (spFitK s x y c))
theorem spQK_eq (s : F32) (x : F32) (y : F32) (c : F32) : spQK s x y c = spQ s x y c := by unfold spQK spQ; simp only [orK_eq, spFitK_eq, spOkK_eq]
noncomputable def spVK (s : F32) (x : F32) (y : F32) (c : F32) : F32 := (narrowF (sqrtD (widenF (spWK s x y c))))
theorem spVK_eq (s : F32) (x : F32) (y : F32) (c : F32) : spVK s x y c = spV s x y c := by unfold spVK spV; simp only [sqrtD_eq, widenF_eq, narrowF_eq, spWK_eq]
noncomputable def spV1K (s : F32) (x : F32) (y : F32) (c : F32) : F32 := (ifK (spOkK s x y c) (ifK (ltS (spWK s x y c) (c32 0)) (c32 0) (toldVK (spVK s x y c))) (c32 0))
theorem spV1K_eq (s : F32) (x : F32) (y : F32) (c : F32) : spV1K s x y c = spV1 s x y c := by unfold spV1K spV1; simp only [ifK_eq, toldVK_eq, ltS_eq, spOkK_eq, spVK_eq, spWK_eq]
noncomputable def spB1K (s : F32) (x : F32) (y : F32) (c : F32) : Bool := (ifK (spOkK s x y c) (ifK (ltS (spWK s x y c) (c32 0)) false (isFinK (spVK s x y c))) false)
theorem spB1K_eq (s : F32) (x : F32) (y : F32) (c : F32) : spB1K s x y c = spB1 s x y c := by unfold spB1K spB1; simp only [ifK_eq, isFinK_eq, ltS_eq, toldB_eq, spOkK_eq, spVK_eq, spWK_eq]
noncomputable def swPpK (s : F32) (x : F32) (y : F32) : F32 := (mulS (c32 1056964608) (subS (subS (c32 1082130432) (bxxK s x y)) (byyK s x y)))
theorem swPpK_eq (s : F32) (x : F32) (y : F32) : swPpK s x y = swPp s x y := by unfold swPpK swPp; simp only [subS_eq, mulS_eq, bxxK_eq, byyK_eq]
noncomputable def swQK (s : F32) (x : F32) (y : F32) : F32 := (subS (mulS (bxxK s x y) (byyK s x y)) (mulS (bxyK s x y) (bxyK s x y)))
theorem swQK_eq (s : F32) (x : F32) (y : F32) : swQK s x y = swQ s x y := by unfold swQK swQ; simp only [subS_eq, mulS_eq, bxxK_eq, bxyK_eq, byyK_eq]
noncomputable def swDK (s : F32) (x : F32) (y : F32) : F32 := (subS (mulS (swPpK s x y) (swPpK s x y)) (swQK s x y))
theorem swDK_eq (s : F32) (x : F32) (y : F32) : swDK s x y = swD s x y := by unfold swDK swD; simp only [subS_eq, mulS_eq, swPpK_eq, swQK_eq]
noncomputable def swSK (s : F32) (x : F32) (y : F32) : Bool := (geS (swDK s x y) (c32 0))
theorem swSK_eq (s : F32) (x : F32) (y : F32) : swSK s x y = swS s x y := by unfold swSK swS; simp only [geS_eq, swDK_eq]
noncomputable def swFitK (s : F32) (x : F32) (y : F32) : Bool := (andK (saFitK s x y) (orK (!(beOkK s x y)) (andK (fitsF (sqrtD (widenF (swDK s x y)))) (orK (swSK s x y) (fitsF (sqrtD (widenF (negS (swDK s x y)))))))))
theorem swFitK_eq (s : F32) (x : F32) (y : F32) : swFitK s x y = swFit s x y := by unfold swFitK swFit; simp only [andK_eq, orK_eq, negS_eq, sqrtD_eq, widenF_eq, fitsF_eq, beOkK_eq, saFitK_eq, swDK_eq, swSK_eq]
noncomputable def rootNK (x : F32) : F32 := (narrowF (sqrtD (widenF x)))
theorem rootNK_eq (x : F32) : rootNK x = rootN x := by unfold rootNK rootN; simp only [sqrtD_eq, widenF_eq, narrowF_eq]
noncomputable def swAK (s : F32) (x : F32) (y : F32) : F32 := (addS (negS (swPpK s x y)) (rootNK (swDK s x y)))
theorem swAK_eq (s : F32) (x : F32) (y : F32) : swAK s x y = swA s x y := by unfold swAK swA; simp only [addS_eq, negS_eq, rootNK_eq, swDK_eq, swPpK_eq]
noncomputable def swAxK (s : F32) (x : F32) (y : F32) : F32 := (ifK (swSK s x y) (swAK s x y) (negS (swPpK s x y)))
theorem swAxK_eq (s : F32) (x : F32) (y : F32) : swAxK s x y = swAx s x y := by unfold swAxK swAx; simp only [ifK_eq, negS_eq, swAK_eq, swPpK_eq, swSK_eq]
noncomputable def swAyK (s : F32) (x : F32) (y : F32) : F32 := (ifK (swSK s x y) (c32 0) (rootNK (negS (swDK s x y))))
theorem swAyK_eq (s : F32) (x : F32) (y : F32) : swAyK s x y = swAy s x y := by unfold swAyK swAy; simp only [ifK_eq, negS_eq, rootNK_eq, swDK_eq, swSK_eq]
noncomputable def swBbK (s : F32) (x : F32) (y : F32) : F32 := (subS (negS (swPpK s x y)) (rootNK (swDK s x y)))
theorem swBbK_eq (s : F32) (x : F32) (y : F32) : swBbK s x y = swBb s x y := by unfold swBbK swBb; simp only [subS_eq, negS_eq, rootNK_eq, swDK_eq, swPpK_eq]
noncomputable def swBxK (s : F32) (x : F32) (y : F32) : F32 := (ifK (swSK s x y) (swBbK s x y) (negS (swPpK s x y)))
theorem swBxK_eq (s : F32) (x : F32) (y : F32) : swBxK s x y = swBx s x y := by unfold swBxK swBx; simp only [ifK_eq, negS_eq, swBbK_eq, swPpK_eq, swSK_eq]
noncomputable def swByK (s : F32) (x : F32) (y : F32) : F32 := (ifK (swSK s x y) (c32 0) (negS (rootNK (negS (swDK s x y)))))
theorem swByK_eq (s : F32) (x : F32) (y : F32) : swByK s x y = swBy s x y := by unfold swByK swBy; simp only [ifK_eq, negS_eq, rootNK_eq, swDK_eq, swSK_eq]
noncomputable def swyOkK (s : F32) (x : F32) (y : F32) : Bool := (andK (beOkK s x y) (andK (cfinK (swAxK s x y) (swAyK s x y)) (cfinK (swBxK s x y) (swByK s x y))))
theorem swyOkK_eq (s : F32) (x : F32) (y : F32) : swyOkK s x y = swyOk s x y := by unfold swyOkK swyOk; simp only [andK_eq, beOkK_eq, cfinK_eq, swAxK_eq, swAyK_eq, swBxK_eq, swByK_eq]
noncomputable def zAyK (s : F32) (x : F32) (y : F32) : F32 := (ifK (swyOkK s x y) (swAyK s x y) (c32 0))
theorem zAyK_eq (s : F32) (x : F32) (y : F32) : zAyK s x y = zAy s x y := by unfold zAyK zAy; simp only [ifK_eq, swAyK_eq, swyOkK_eq]
noncomputable def zByK (s : F32) (x : F32) (y : F32) : F32 := (ifK (swyOkK s x y) (swByK s x y) (c32 0))
theorem zByK_eq (s : F32) (x : F32) (y : F32) : zByK s x y = zBy s x y := by unfold zByK zBy; simp only [ifK_eq, swByK_eq, swyOkK_eq]
noncomputable def zAxK (s : F32) (x : F32) (y : F32) : F32 := (ifK (swyOkK s x y) (swAxK s x y) (c32 0))
theorem zAxK_eq (s : F32) (x : F32) (y : F32) : zAxK s x y = zAx s x y := by unfold zAxK zAx; simp only [ifK_eq, swAxK_eq, swyOkK_eq]
noncomputable def zBxK (s : F32) (x : F32) (y : F32) : F32 := (ifK (swyOkK s x y) (swBxK s x y) (c32 0))
theorem zBxK_eq (s : F32) (x : F32) (y : F32) : zBxK s x y = zBx s x y := by unfold zBxK zBx; simp only [ifK_eq, swBxK_eq, swyOkK_eq]
noncomputable def stdBK (s : F32) (x : F32) (y : F32) : Bool := (andK (swyOkK s x y) (andK (eqS (zAyK s x y) (c32 0)) (andK (eqS (zByK s x y) (c32 0)) (andK (ltS (zAxK s x y) (c32 0)) (ltS (zBxK s x y) (c32 0))))))
theorem stdBK_eq (s : F32) (x : F32) (y : F32) : stdBK s x y = stdB s x y := by unfold stdBK stdB; simp only [andK_eq, ltS_eq, eqS_eq, swyOkK_eq, zAxK_eq, zAyK_eq, zBxK_eq, zByK_eq]
noncomputable def gVK (sh : F32) (x : F32) (y : F32) : F32 := (mulS two32 (potK sh x y))
theorem gVK_eq (sh : F32) (x : F32) (y : F32) : gVK sh x y = gV sh x y := by unfold gVK gV; simp only [mulS_eq, potK_eq]
noncomputable def gOk1K (sh : F32) (x : F32) (y : F32) : Bool := (andK (finSK (potK sh x y)) (finSK (gVK sh x y)))
theorem gOk1K_eq (sh : F32) (x : F32) (y : F32) : gOk1K sh x y = gOk1 sh x y := by unfold gOk1K gOk1; simp only [andK_eq, finSK_eq, gVK_eq, potK_eq]
noncomputable def massAK (x : F32) : F32 := (ifK (!(isShareK x)) (c32 0) (negS x))
theorem massAK_eq (x : F32) : massAK x = massA x := by unfold massAK massA; simp only [ifK_eq, negS_eq, isShareK_eq]
noncomputable def massBK (x : F32) : F32 := (ifK (!(isShareK x)) (c32 0) (subS one32 x))
theorem massBK_eq (x : F32) : massBK x = massB x := by unfold massBK massB; simp only [ifK_eq, subS_eq, isShareK_eq]
noncomputable def massCK (x : F32) : Bool := (ifK (!(isShareK x)) false true)
theorem massCK_eq (x : F32) : massCK x = massC x := by unfold massCK massC; simp only [ifK_eq, isShareK_eq]
noncomputable def gapMK (a : F64) (b : F64) : F64 := (fmaxD (subD a b) (subD b a))
theorem gapMK_eq (a : F64) (b : F64) : gapMK a b = gapM a b := by unfold gapMK gapM; simp only [subD_eq, fmaxD_eq]
noncomputable def pXK (sh : F32) : F32 := (subS (c32 1056964608) sh)
theorem pXK_eq (sh : F32) : pXK sh = pX sh := by unfold pXK pX; simp only [subS_eq]

/-- A point of rest, by halves. -/
noncomputable def rsK (sh : F32) (n : Nat) : F32 → F32 → Option F32 :=
  Nat.rec (fun lo _ => some lo) (fun _ ih lo hi => fo (mulS (c32 1056964608) (addS lo hi)) fun md => bb (slFinK sh md (c32 0)) (bb (gtS (slXK sh md (c32 0)) (c32 0)) (ih lo md) (ih md hi)) none) n
theorem rsK_eq (sh : F32) : ∀ (n : Nat) (lo hi : F32), rsK sh n lo hi = (rsRun sh n (lo, hi)).map (·.1)
  | 0, lo, hi => rfl
  | n + 1, lo, hi => by
    show fo (mulS (c32 1056964608) (addS lo hi)) (fun md => bb (slFinK sh md (c32 0)) (bb (gtS (slXK sh md (c32 0)) (c32 0)) (rsK sh n lo md) (rsK sh n md hi)) none) = _
    rw [fo_eq, mulS_eq, addS_eq, bb_cond, bb_cond, slFinK_eq, slXK_eq, gtS_eq, rsK_eq sh n, rsK_eq sh n]
    have hm : c32 1056964608 * (lo + hi) = mid (lo, hi) := rfl
    rw [hm]
    simp only [rsRun, rsNext]
    cases slFin sh (mid (lo, hi)) (c32 0)
    · rfl
    · cases gt (slX sh (mid (lo, hi)) (c32 0)) (c32 0) <;> rfl
theorem rsK_some {sh lo hi x : F32} (h : rsK sh 26 lo hi = some x) : rsB sh lo hi = true ∧ rsX sh lo hi = x := by
  rw [rsK_eq] at h
  unfold rsB rsX
  cases hr : rsRun sh 26 (lo, hi) with
  | none => rw [hr] at h; cases h
  | some s => rw [hr] at h; cases h; exact ⟨rfl, rfl⟩

-- the parts
noncomputable def c1K (s x y g : F32) : Bool :=
  andK (saFitK s x y) (andK (coQK s x y (c32 0) (c32 0)) (andK (puvBK s x y) (andK (coBK s x y (c32 0) (c32 0)) (andK (fitsF (longFK (puvXK s x y) (puvYK s x y))) (andK (!(gtS (longK (puvXK s x y) (puvYK s x y)) (c32 1008981770))) (!(neS (coVK s x y (c32 0) (c32 0)) g)))))))
theorem c1K_eq {s x y g : F32} (h : c1K s x y g = true) {α : Type} (nay rest : Option α) : rp1 nay s x y g rest = rest := by
  unfold c1K at h
  simp only [andK_eq, Bool.and_eq_true, Bool.not_eq_true', saFitK_eq, coQK_eq, puvBK_eq, coBK_eq, fitsF_eq, longFK_eq, longK_eq, puvXK_eq, puvYK_eq, gtS_eq, neS_eq, coVK_eq] at h
  obtain ⟨h1, h2, h3, h4, h5, h6, h7⟩ := h
  unfold rp1
  rw [h1, h2, h3, h4, h5, h6, h7]; rfl
noncomputable def c2K (s x y gr sm : F32) : Bool :=
  fo (subS x gr) fun a => fo (subS x sm) fun b => fo (subS y (c32 0)) fun y0 =>
  andK (fitsF (longFK a y0)) (andK (!(gtD (gapMK (widenF (longK a y0)) one) milli)) (andK (fitsF (longFK b y0)) (andK (!(gtD (gapMK (widenF (longK b y0)) one) milli)) (andK (swFitK s x y) (!(stdBK s x y != eqS s (c32 1023410176)))))))
theorem c2K_eq {s x y gr sm : F32} (h : c2K s x y gr sm = true) {α : Type} (nay rest : Option α) : rp2 nay s x y gr sm rest = rest := by
  unfold c2K at h
  simp only [fo_eq, subS_eq, andK_eq, Bool.and_eq_true, Bool.not_eq_true', fitsF_eq, longFK_eq, longK_eq, gtD_eq, gapMK_eq, widenF_eq, swFitK_eq, stdBK_eq, eqS_eq] at h
  obtain ⟨h1, h2, h3, h4, h5, h6⟩ := h
  unfold rp2
  rw [h1, h2, h3, h4, h5, h6]; rfl
noncomputable def c3K (s x0 x1 x2 g0 g1 g2 g3 gr sm : F32) : Bool :=
  andK (ltS x2 gr) (andK (ltS gr x0) (andK (ltS x0 sm) (andK (ltS sm x1) (andK (!(ltS g0 (subS g1 centi32))) (andK (!(ltS g1 (subS g2 centi32))) (andK (!(ltD (widenF g2) (subD (widenF g3) (c64 4576918229304087675)))) (andK (swFitK s x0 (c32 0)) (!(stdBK s x0 (c32 0))))))))))
theorem c3K_eq {s x0 x1 x2 g0 g1 g2 g3 gr sm : F32} (h : c3K s x0 x1 x2 g0 g1 g2 g3 gr sm = true) {α : Type} (nay rest : Option α) : rp3 nay s x0 x1 x2 g0 g1 g2 g3 gr sm rest = rest := by
  unfold c3K at h
  simp only [andK_eq, Bool.and_eq_true, Bool.not_eq_true', ltS_eq, subS_eq, ltD_eq, widenF_eq, subD_eq, swFitK_eq, stdBK_eq] at h
  obtain ⟨h1, h2, h3, h4, h5, h6, h7, h8, h9⟩ := h
  unfold rp3
  rw [h1, h2, h3, h4, h5, h6, h7, h8, h9]; rfl
/-- All that hangs on the share. -/
noncomputable def shareK (s : F32) : Bool :=
  andK (isShareK s) (fo (addS (negS s) ka) fun la => fo (subS (subS one32 s) ka) fun ha => fo (addS (subS one32 s) ka) fun lb => fo (subS (negS s) ka) fun hc =>
  Option.rec false (fun x1 => fo x1 fun x1 => Option.rec false (fun x2 => fo x2 fun x2 => Option.rec false (fun x3 => fo x3 fun x3 =>
    fo (pXK s) fun x4 => fo (gVK s x1 (c32 0)) fun g1 => fo (gVK s x2 (c32 0)) fun g2 => fo (gVK s x3 (c32 0)) fun g3 => fo (gVK s x4 pY) fun g4 => fo (gVK s x4 pZ) fun g5 => fo (massAK s) fun gr => fo (massBK s) fun sm =>
    andK (gOk1K s x1 (c32 0)) (andK (gOk1K s x2 (c32 0)) (andK (gOk1K s x3 (c32 0)) (andK (gOk1K s x4 pY) (andK (gOk1K s x4 pZ) (andK (massCK s)
    (andK (c1K s x1 (c32 0) g1) (andK (c1K s x2 (c32 0) g2) (andK (c1K s x3 (c32 0) g3) (andK (c1K s x4 pY g4) (andK (c1K s x4 pZ g5)
    (andK (c2K s x4 pY gr sm) (andK (c2K s x4 pZ gr sm) (c3K s x1 x2 x3 g1 g2 g3 g4 gr sm))))))))))))))
    (rsK s 26 loC hc)) (rsK s 26 lb hiB)) (rsK s 26 la ha))
theorem orec {α : Type} {o : Option α} {p : α → Bool} (h : (Option.rec false p o : Bool) = true) : ∃ x, o = some x ∧ p x = true := by
  cases o with
  | none => cases h
  | some x => exact ⟨x, rfl, h⟩
theorem shareK_eq {s : F32} (h : shareK s = true) {α : Type} (nay rest : Option α) : rpB nay s rest = rest := by
  unfold shareK at h
  rw [andK_eq, Bool.and_eq_true, isShareK_eq] at h
  obtain ⟨hs, h⟩ := h
  rw [fo_eq, fo_eq, fo_eq, fo_eq] at h
  obtain ⟨x1, e1, h⟩ := orec h
  rw [fo_eq] at h
  obtain ⟨x2, e2, h⟩ := orec h
  rw [fo_eq] at h
  obtain ⟨x3, e3, h⟩ := orec h
  simp only [addS_eq, subS_eq, negS_eq] at e1 e2 e3
  obtain ⟨b1, r1⟩ := rsK_some e1
  obtain ⟨b2, r2⟩ := rsK_some e2
  obtain ⟨b3, r3⟩ := rsK_some e3
  simp only [fo_eq, pXK_eq, gVK_eq, massAK_eq, massBK_eq, andK_eq, Bool.and_eq_true, gOk1K_eq, massCK_eq] at h
  obtain ⟨g1, g2, g3, g4, g5, hm, k1, k2, k3, k4, k5, k6, k7, k8⟩ := h
  have q1 : p1x s = x1 := r1
  have q2 : p2x s = x2 := r2
  have q3 : p3x s = x3 := r3
  have hp : pOk s = true := by
    unfold pOk
    have c1 : rsB s (loA s) (hiA s) = true := b1
    have c2 : rsB s (loB s) hiB = true := b2
    have c3 : rsB s loC (hiC s) = true := b3
    rw [hs, c1, c2, c3]; rfl
  have hg : gOk s = true := by
    unfold gOk
    have c1 : rsB s (loA s) (hiA s) = true := b1
    have c2 : rsB s (loB s) hiB = true := b2
    have c3 : rsB s loC (hiC s) = true := b3
    have d1 : rsX s (loA s) (hiA s) = x1 := r1
    have d2 : rsX s (loB s) hiB = x2 := r2
    have d3 : rsX s loC (hiC s) = x3 := r3
    rw [hs, c1, c2, c3, d1, d2, d3, g1, g2, g3, g4, g5]; rfl
  unfold rpB
  rw [hp, hg, hm, q1, q2, q3, c1K_eq k1, c1K_eq k2, c1K_eq k3, c1K_eq k4, c1K_eq k5, c2K_eq k6, c2K_eq k7, c3K_eq k8]; rfl
noncomputable def rShareK (a : Nat) : F32 := divS (i32 (inc (a : Int))) (c32 1107296256)
theorem rShareK_eq (a : Nat) : rShareK a = rShare a := by unfold rShareK rShare; rw [divS_eq]
noncomputable def shareRow (a : Nat) : Bool := fo (rShareK a) shareK
theorem shareRow_of {a : Nat} (h : shareRow a = true) {α : Type} (nay rest : Option α) : rpB nay (rShare a) rest = rest := by
  unfold shareRow at h
  rw [fo_eq, rShareK_eq] at h
  exact shareK_eq h nay rest
end Go.Proofs.Ytlpahmefebgdlaa.Fx
