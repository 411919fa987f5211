/- Nodes, costs and configurations, plainly. -/
import Derived.Test.YtohodbfoeejbjaaEvFwd
import Derived.Test.YtohodbfoeejbjaaEvLoop
set_option linter.unusedVariables false
namespace Go.Ev

abbrev gRules : GTy := .prod (.int .i64) (.prod (.int .i64) (.prod (.int .i64) (.int .i64)))
abbrev gCosts : GTy := .prod (.int .i64) (.arr 16 (.int .u32))
abbrev gConf : GTy := .prod (.int .i64) (.prod gRules gCosts)
abbrev DRules := Int × Int × Int × Int
abbrev DCosts := Int × List Int
abbrev DConf := Int × DRules × DCosts

/-- Bit n of a set. -/
def bitF (set n : Int) : Bool := bitsOp .and .i64 (Int.fdiv set (2 ^ min n.toNat 64)) 1 == 1
def hasF (set n : Int) : Bool := bif rightF n then bitF set n else false
def rcostF (n : Int) : Bool := bif decide (n ≥ 1) then decide (n ≤ 65536) else false
def withF (set n : Int) : Int := bif !rightF n then set else bitsOp .or .i64 set (IntKind.i64.wrap (1 * 2 ^ min n.toNat 64))
def withinF (n a b : Int) : Bool := bif decide (n ≥ a) then decide (n ≤ b) else false
def rulesF (r : DRules) : Bool := bif bif bif bif withinF r.1 1 100 then decide (r.2.1 > r.1) else false then decide (r.2.1 ≤ 1000) else false then withinF r.2.2.1 1 100 else false then withinF r.2.2.2 1 10 else false
def csetF (c : DCosts) (n w : Int) : DCosts × Int := bif bif !rightF n then true else !rcostF w then (c, 1) else ((withF c.1 n, c.2.set n.toNat w), 0)
/-- The set's nodes among the last k. -/
def elemsF (set : Int) : Nat → List Int
  | 0 => []
  | k + 1 => (bif hasF set (16 - (k + 1 : Nat)) then [(16 : Int) - (k + 1 : Nat)] else []) ++ elemsF set k
theorem elems_len (set : Int) : ∀ k, (elemsF set k).length ≤ k
  | 0 => Nat.le_refl _
  | k + 1 => by
    have := elems_len set k
    unfold elemsF
    cases hasF set (16 - (k + 1 : Nat)) <;> simp <;> omega
theorem list_step {s i : Int} {out : List Int} (h : 0 ≤ i ∧ i ≤ 16 ∧ (out.length : Int) ≤ i) :
    ((decide (i < 16) = true → (hasF s i = true → (out.length + 1) * 8 ≤ 140737488355328) ∧ ∃ y : (Int × Int × Unit) × List Int × Unit, some ((s, IntKind.i64.wrap (i + 1), ()), bif hasF s i then out ++ [i] else out, ()) = some y ∧
        (0 ≤ y.1.2.1 ∧ y.1.2.1 ≤ 16 ∧ (y.2.1.length : Int) ≤ y.1.2.1) ∧ (16 - y.1.2.1).toNat < (16 - i).toNat ∧ (Ex.exit 0, ((y.1.1, (16 : Int), ()), y.2.1 ++ elemsF y.1.1 (16 - y.1.2.1).toNat, ())) = (Ex.exit 0, ((s, (16 : Int), ()), out ++ elemsF s (16 - i).toNat, ()))) ∧
      (decide (i < 16) = false → ∃ y : (Int × Int × Unit) × List Int × Unit, some ((s, i, ()), out, ()) = some y ∧ (Ex.exit 0, ((s, (16 : Int), ()), out ++ elemsF s (16 - i).toNat, ())) = (Ex.exit 0, y))) := by
  obtain ⟨h1, h2, h3⟩ := h
  refine ⟨fun h => ?_, fun h => ?_⟩
  · have h' : i < 16 := by simpa using h
    have e : IntKind.i64.wrap (i + 1) = i + 1 := i64_id (by omega) (by omega)
    rw [e]
    refine ⟨fun _ => by omega, _, rfl, ⟨by simp only []; omega, by simp only []; omega, ?_⟩, by simp only []; omega, ?_⟩
    · cases hasF s i <;> simp <;> omega
    · simp only []
      rw [show (16 - i).toNat = (16 - (i + 1)).toNat + 1 by omega, elemsF, show (16 : Int) - ((16 - (i + 1)).toNat + 1 : Nat) = i by omega]
      cases hasF s i <;> simp
  · have h' : i = 16 := by
      have : ¬ i < 16 := by simpa using h
      omega
    subst h'
    exact ⟨_, rfl, by simp [elemsF]⟩
end Go.Ev
