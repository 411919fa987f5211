/- Parcels, and by whom they go, plainly. -/
import Derived.Test.YtohodbfoeejbjaaEvLawEpoch
set_option linter.unusedVariables false
namespace Go.Ev

abbrev gFib : GTy := .prod (.int .i64) (.prod (.arr 16 (.int .i64)) (.arr 16 gPair))
abbrev gParcel : GTy := .prod (.int .i64) (.prod gPair (.prod (.int .i64) (.prod (.int .i64) (.prod (.int .i64) .str))))
abbrev DPair := (Int × Int) × (Int × Int)
abbrev DFib := Int × List Int × List DPair
abbrev DParcel := Int × DPair × Int × Int × Int × List UInt8

def rightF (n : Int) : Bool := bif decide (n ≥ 0) then decide (n < 16) else false
def parcel0 : DParcel := (0, ((0, 0), (0, 0)), 0, 0, 0, [])
def prightF (p : DParcel) : Bool :=
  bif bif bif bif bif rightF p.1 then rightF p.2.2.1 else false then rightF p.2.2.2.1 else false then decide (p.2.2.2.2.1 ≥ 1) else false then decide (p.2.2.2.2.1 ≤ 64) else false then decide ((p.2.2.2.2.2.length : Int) ≤ 64) else false
def hoppedF (p : DParcel) (n : Int) (e : DPair) : DParcel := bif decide (p.2.2.2.2.1 ≤ 1) then parcel0 else (n, e, p.2.2.1, p.2.2.2.1, IntKind.i64.wrap (p.2.2.2.2.1 - 1), p.2.2.2.2.2)
def hopF (p : DParcel) (n : Int) (e : DPair) : DParcel × Bool := (hoppedF p n e, !(geq gParcel (hoppedF p n e) parcel0))
def fib0 (self : Int) : DFib := (self, List.replicate 16 (-1), List.replicate 16 ((0, 0), (0, 0)))
def oldF (f : DFib) (p : DParcel) : Bool := bif bif !rightF p.1 then true else p.1 == f.1 then true else !sameF (f.2.2.getD p.1.toNat ((0, 0), (0, 0))) p.2.1
theorem rightF_iff {n : Int} : rightF n = true ↔ 0 ≤ n ∧ n < 16 := by
  unfold rightF
  cases h : decide (n ≥ 0) <;> simp at h ⊢ <;> omega
def fateF (f : DFib) (p : DParcel) (mine : Bool) : Int :=
  bif !prightF p then 3 else bif bif !mine then oldF f p else false then 4 else bif p.2.2.2.1 == f.1 then 0 else bif bif !mine then p.2.2.1 == f.1 else false then 5 else
    bif !rightF (f.2.1.getD p.2.2.2.1.toNat 0) then 3 else bif bif !mine then decide (p.2.2.2.2.1 ≤ 1) else false then 2 else 1
def outF (f : DFib) (p : DParcel) : Int × DParcel × Bool :=
  bif bif !rightF p.2.2.2.1 then true else !rightF (f.2.1.getD p.2.2.2.1.toNat 0) then (-1, parcel0, false) else
    (f.2.1.getD p.2.2.2.1.toNat 0, (f.1, f.2.2.getD (f.2.1.getD p.2.2.2.1.toNat 0).toNat ((0, 0), (0, 0)), p.2.2), true)
theorem prightF_dst {p : DParcel} (h : prightF p = true) : 0 ≤ p.2.2.2.1 ∧ p.2.2.2.1 < 16 := by
  unfold prightF at h
  cases h1 : rightF p.2.2.2.1 with
  | true => exact rightF_iff.1 h1
  | false => rw [h1] at h; cases hx : rightF p.1 <;> cases hy : rightF p.2.2.1 <;> simp [hx, hy] at h
def carryF (f : DFib) (p : DParcel) : Int × DParcel × Int :=
  bif fateF f p false != 1 then (-1, parcel0, fateF f p false) else bif geq gParcel (hopF p f.1 p.2.1).1 parcel0 then (-1, (hopF p f.1 p.2.1).1, fateF f p false) else
    ((outF f (hopF p f.1 p.2.1).1).1, (outF f (hopF p f.1 p.2.1).1).2.1, fateF f p false)
def beginF (f : DFib) (p : DParcel) : Int × DParcel × Int :=
  bif fateF f (f.1, p.2.1, f.1, p.2.2.2) true != 1 then (-1, parcel0, fateF f (f.1, p.2.1, f.1, p.2.2.2) true) else
    ((outF f (f.1, p.2.1, f.1, p.2.2.2)).1, (outF f (f.1, p.2.1, f.1, p.2.2.2)).2.1, fateF f (f.1, p.2.1, f.1, p.2.2.2) true)
def someFib : DFib := (1, (List.replicate 16 (-1)).set 3 2, ((List.replicate 16 ((0, 0), (0, 0))).set 2 ((1, 0), (2, 0))).set 4 ((1, 0), (9, 0)))
end Go.Ev
