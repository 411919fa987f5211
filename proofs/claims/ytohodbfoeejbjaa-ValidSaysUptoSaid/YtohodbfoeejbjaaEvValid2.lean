/- Configurations that may be, plainly. -/
import Derived.Test.YtohodbfoeejbjaaEvValid
set_option linter.unusedVariables false
set_option linter.unusedSimpArgs false
namespace Go.Ev
def confF (c : DConf) : Int := bif bif !rightF c.1 then true else !soundF c.2.2 then 1 else bif hasF c.2.2.1 c.1 then 10 else bif !rulesF c.2.1 then 3 else 0
def cpairF (a b : DConf) : Bool := bif bif a.1 != b.1 then hasF a.2.2.1 b.1 else false then hasF b.2.2.1 a.1 else false
/-- A node of the last k of the set is not below so many. -/
def strayK (s m : Int) : Nat → Bool
  | 0 => false
  | k + 1 => bif hasF s (16 - (k + 1 : Nat)) then bif decide (16 - ((k + 1 : Nat) : Int) ≥ m) then true else strayK s m k else strayK s m k
def strayAt (s m : Int) : Nat → Int
  | 0 => 16
  | k + 1 => bif hasF s (16 - (k + 1 : Nat)) then bif decide (16 - ((k + 1 : Nat) : Int) ≥ m) then 16 - ((k + 1 : Nat) : Int) else strayAt s m k else strayAt s m k
def straysF (s m : Int) : Bool := strayK s m 16
def anyGe (m : Int) : List Int → Bool
  | [] => false
  | n :: r => bif decide (n ≥ m) then true else anyGe m r
def anyAt (m : Int) : List Int → Int → Int
  | [], i => i
  | n :: r, i => bif decide (n ≥ m) then i else anyAt m r (i + 1)
theorem any_stray (s m : Int) : ∀ k, anyGe m (elemsF s k) = strayK s m k
  | 0 => rfl
  | k + 1 => by
    have ih := any_stray s m k
    rw [elemsF, strayK]
    cases hasF s (16 - (k + 1 : Nat)) with
    | false => simpa using ih
    | true =>
      simp only [cond_true, List.cons_append, List.nil_append, anyGe]
      rw [ih]
def netGo (m : Int) : List DConf → Int → Int
  | [], _ => 0
  | c :: r, i => bif confF c != 0 then confF c else bif c.1 != i then 1 else bif straysF c.2.2.1 m then 9 else netGo m r (i + 1)
def netAt (m : Int) : List DConf → Int → Int
  | [], i => i
  | c :: r, i => bif confF c != 0 then i else bif c.1 != i then i else bif straysF c.2.2.1 m then i else netAt m r (i + 1)
def netF (l : List DConf) : Int := bif bif decide ((l.length : Int) < 1) then true else decide ((l.length : Int) > 8) then 4 else bif netGo l.length l 0 == 0 then 0 else netGo l.length l 0
def conf0 : DConf := (0, (0, 0, 0, 0), 0, List.replicate 16 0)

theorem stray_step {s m i : Int} {b : Bool} {c : DConf} (hs : c.2.2.1 = s) (h : 0 ≤ i ∧ i ≤ 16) :
    ((decide (i < 16) = true → (((!hasF s i) = true → ∃ y : (Int × Bool × Int × Unit) × DConf × Unit, some ((m, b, IntKind.i64.wrap (i + 1), ()), c, ()) = some y ∧
        (0 ≤ y.1.2.2.1 ∧ y.1.2.2.1 ≤ 16) ∧ (16 - y.1.2.2.1).toNat < (16 - i).toNat ∧
          (Ex.exit 0, ((y.1.1, bif strayK y.2.1.2.2.1 y.1.1 (16 - y.1.2.2.1).toNat then true else y.1.2.1, strayAt y.2.1.2.2.1 y.1.1 (16 - y.1.2.2.1).toNat, ()), y.2.1, ())) = (Ex.exit 0, ((m, bif strayK s m (16 - i).toNat then true else b, strayAt s m (16 - i).toNat, ()), c, ()))) ∧
      ((!hasF s i) = false → ((decide (i ≥ m) = true → ∃ y : (Int × Bool × Int × Unit) × DConf × Unit, some ((m, true, i, ()), c, ()) = some y ∧ (Ex.exit 0, ((m, bif strayK s m (16 - i).toNat then true else b, strayAt s m (16 - i).toNat, ()), c, ())) = (Ex.exit 0, y)) ∧
        (decide (i ≥ m) = false → ∃ y : (Int × Bool × Int × Unit) × DConf × Unit, some ((m, b, IntKind.i64.wrap (i + 1), ()), c, ()) = some y ∧
          (0 ≤ y.1.2.2.1 ∧ y.1.2.2.1 ≤ 16) ∧ (16 - y.1.2.2.1).toNat < (16 - i).toNat ∧
            (Ex.exit 0, ((y.1.1, bif strayK y.2.1.2.2.1 y.1.1 (16 - y.1.2.2.1).toNat then true else y.1.2.1, strayAt y.2.1.2.2.1 y.1.1 (16 - y.1.2.2.1).toNat, ()), y.2.1, ())) = (Ex.exit 0, ((m, bif strayK s m (16 - i).toNat then true else b, strayAt s m (16 - i).toNat, ()), c, ()))))))) ∧
      (decide (i < 16) = false → ∃ y : (Int × Bool × Int × Unit) × DConf × Unit, some ((m, b, i, ()), c, ()) = some y ∧ (Ex.exit 0, ((m, bif strayK s m (16 - i).toNat then true else b, strayAt s m (16 - i).toNat, ()), c, ())) = (Ex.exit 0, y))) := by
  obtain ⟨h1, h2⟩ := h
  subst hs
  refine ⟨fun h => ?_, fun h => ?_⟩
  · have h' : i < 16 := by simpa using h
    have e : IntKind.i64.wrap (i + 1) = i + 1 := i64_id (by omega) (by omega)
    have hk : (16 - i).toNat = (16 - (i + 1)).toNat + 1 := by omega
    have hi : (16 : Int) - ((16 - (i + 1)).toNat + 1 : Nat) = i := by omega
    rw [e, hk]
    simp only [strayK, strayAt, hi]
    refine ⟨fun hh => ?_, fun hh => ⟨fun hm => ?_, fun hm => ?_⟩⟩
    · have hb : hasF c.2.2.1 i = false := by simpa using hh
      rw [hb]
      exact ⟨_, rfl, ⟨by simp only []; omega, by simp only []; omega⟩, by simp only []; omega, rfl⟩
    · have hb : hasF c.2.2.1 i = true := by simpa using hh
      rw [hb, hm]
      exact ⟨_, rfl, rfl⟩
    · have hb : hasF c.2.2.1 i = true := by simpa using hh
      rw [hb, hm]
      exact ⟨_, rfl, ⟨by simp only []; omega, by simp only []; omega⟩, by simp only []; omega, rfl⟩
  · have h' : i = 16 := by
      have : ¬ i < 16 := by simpa using h
      omega
    subst h'
    exact ⟨_, rfl, rfl⟩
end Go.Ev
