/- What goes on, plainly. -/
import Derived.Test.YtohodbfoeejbjaaEvFwd
set_option linter.unusedVariables false
namespace Go.Ev

def nextOf (f : DFib) (p : DParcel) : Int := f.2.1.getD p.2.2.2.1.toNat 0
theorem pright_ttl {p : DParcel} (h : prightF p = true) : 1 ≤ p.2.2.2.2.1 ∧ p.2.2.2.2.1 ≤ 64 := by
  unfold prightF at h
  cases h1 : rightF p.1 <;> cases h2 : rightF p.2.2.1 <;> cases h3 : rightF p.2.2.2.1 <;> cases h4 : decide (p.2.2.2.2.1 ≥ 1) <;> cases h5 : decide (p.2.2.2.2.1 ≤ 64) <;> simp [h1, h2, h3, h4, h5] at h
  simp at h4 h5
  exact ⟨h4, h5⟩
theorem fate_on {f : DFib} {p : DParcel} (h : fateF f p false = 1) : prightF p = true ∧ rightF (nextOf f p) = true ∧ 1 < p.2.2.2.2.1 := by
  unfold fateF at h
  unfold nextOf
  cases h1 : prightF p <;> cases h2 : oldF f p <;> cases h3 : (p.2.2.2.1 == f.1) <;> cases h4 : (p.2.2.1 == f.1) <;> cases h5 : rightF (f.2.1.getD p.2.2.2.1.toNat 0) <;> cases h6 : decide (p.2.2.2.2.1 ≤ 1) <;> rw [h1, h2, h3, h4, h5, h6] at h <;> first | (exfalso; revert h; decide) | skip
  simp at h6
  exact ⟨rfl, rfl, h6⟩
theorem carry_fate (f : DFib) (p : DParcel) : (carryF f p).2.2 = fateF f p false := by
  unfold carryF
  cases (fateF f p false != 1) <;> cases geq gParcel (hopF p f.1 p.2.1).1 parcel0 <;> rfl
theorem carry_off {f : DFib} {p : DParcel} (h : (fateF f p false != 1) = true) : carryF f p = (-1, parcel0, fateF f p false) := by
  unfold carryF
  rw [h]
  rfl
theorem carry_on {f : DFib} {p : DParcel} (h : fateF f p false = 1) :
    carryF f p = (nextOf f p, (f.1, f.2.2.getD (nextOf f p).toNat ((0, 0), (0, 0)), p.2.2.1, p.2.2.2.1, IntKind.i64.wrap (p.2.2.2.2.1 - 1), p.2.2.2.2.2), 1) := by
  obtain ⟨h1, h2, h3⟩ := fate_on h
  have ht := pright_ttl h1
  have hd := rightF_iff.2 (prightF_dst h1)
  have hh : decide (p.2.2.2.2.1 ≤ 1) = false := by simpa using h3
  have e : IntKind.i64.wrap (p.2.2.2.2.1 - 1) = p.2.2.2.2.1 - 1 := i64_id (by omega) (by omega)
  have hop : (hopF p f.1 p.2.1).1 = (f.1, p.2.1, p.2.2.1, p.2.2.2.1, IntKind.i64.wrap (p.2.2.2.2.1 - 1), p.2.2.2.2.2) := by
    unfold hopF hoppedF
    rw [hh]
    rfl
  have hne : geq gParcel (hopF p f.1 p.2.1).1 parcel0 = false := by
    rw [hop, e]
    have : (p.2.2.2.2.1 - 1 == (0 : Int)) = false := by simp; omega
    simp only [geq, parcel0, this, Bool.false_and, Bool.and_false]
  unfold carryF
  rw [hne, h, hop]
  unfold outF
  rw [hd]
  unfold nextOf at h2 ⊢
  rw [h2]
  rfl
theorem keeps_yes {f : DFib} {p : DParcel} (h : fateF f p false = 1) :
    (bif bif bif bif bif bif bif (carryF f p).1 == nextOf f p then (carryF f p).2.1.2.2.2.2.2 == p.2.2.2.2.2 else false then (carryF f p).2.1.2.2.1 == p.2.2.1 else false then (carryF f p).2.1.2.2.2.1 == p.2.2.2.1 else false then
      (carryF f p).2.1.2.2.2.2.1 == IntKind.i64.wrap (p.2.2.2.2.1 - 1) else false then (carryF f p).2.1.1 == f.1 else false then geq gPair (carryF f p).2.1.2.1 (f.2.2.getD (carryF f p).1.toNat ((0, 0), (0, 0))) else false then true else false) = true := by
  rw [carry_on h]
  simp [geqPair]
end Go.Ev
