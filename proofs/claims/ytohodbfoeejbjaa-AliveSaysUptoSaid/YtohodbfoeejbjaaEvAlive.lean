/- An end's ticks, in plain Lean. -/
import Derived.Test.YtohodbfoeejbjaaEvChan
import Derived.Test.YtohodbfoeejbjaaEvNodes
set_option linter.unusedVariables false
set_option linter.unusedSimpArgs false
namespace Go.Ev
abbrev gItem : GTy := .prod (.int .i64) (.prod (.int .i64) (.prod (.int .u32) (.int .i64)))
abbrev gPart : GTy := .prod (.int .i64) (.prod gPair (.prod (.int .i64) (.prod .bool (.sl gItem))))
abbrev gWin : GTy := .prod (.int .i64) (.sl gPart)
abbrev gKept : GTy := .prod (.int .i64) (.prod .str (.prod (.int .i64) (.int .i64)))
abbrev gMrl : GTy := .prod (.int .i64) (.prod (.sl gKept) (.prod gWin (.sl gItem)))
abbrev gPort : GTy := .prod (.int .i64) (.prod gE (.prod gE (.prod (.int .i64) (.prod (.int .i64) gMrl))))
abbrev DItem := Int × Int × Int × Int
abbrev DPart := Int × ((Int × Int) × (Int × Int)) × Int × Bool × List DItem
abbrev DWin := Int × List DPart
abbrev DKept := Int × List UInt8 × Int × Int
abbrev DMrl := Int × List DKept × DWin × List DItem
abbrev DPort := Int × (Int × Int) × (Int × Int) × Int × Int × DMrl
def dueF (x : DPort) : Bool := bif x.1 != (0 : Int) then decide (x.2.2.2.2.1 ≤ (1 : Int)) else false
def heardF (x : DPort) : DPort := (x.1, x.2.1, x.2.2.1, (0 : Int), x.2.2.2.2)
def stepF (r : DRules) (x : DPort) : DPort := bif dueF x then (x.1, x.2.1, x.2.2.1, x.2.2.2.1, if r.1 < (1 : Int) then (1 : Int) else r.1, x.2.2.2.2.2) else (x.1, x.2.1, x.2.2.1, x.2.2.2.1, IntKind.wrap IntKind.i64 (x.2.2.2.2.1 - (1 : Int)), x.2.2.2.2.2)
def quietF (r : DRules) (x : DPort) : DPort := bif decide (x.2.2.2.1 < r.2.1) then (x.1, x.2.1, x.2.2.1, IntKind.wrap IntKind.i64 (x.2.2.2.1 + (1 : Int)), x.2.2.2.2) else x
def tickF (x : DPort) (r : DRules) : DPort × Bool × Bool :=
  bif x.1 == (0 : Int) then (x, false, false)
  else bif (stepF r x).1 == (2 : Int) then (quietF r (stepF r x), dueF x, decide ((quietF r (stepF r x)).2.2.2.1 ≥ r.2.1))
  else (stepF r x, dueF x, false)
def longF (l : List DPart) : Bool := (l.any fun p => decide ((p.2.2.2.2.length : Int) > 100)) || decide ((l.length : Int) > 60)
theorem max_two (r : Int) : (if (1 : Int) < r then r else (1 : Int)) = if r < (1 : Int) then (1 : Int) else r := by
  split <;> split <;> omega
def zMrl : DMrl := ((0 : Int), [], ((0 : Int), []), [])
def portAt (s w : Int) : DPort := ((2 : Int), ((0 : Int), (0 : Int)), ((0 : Int), (0 : Int)), s, w, zMrl)
def waitAt (d i : Int) : Int := if i ≤ 1 then 0 else d - (i - 2) % d
def runP (r : DRules) : Nat → DPort → DPort
  | 0, p => p
  | n + 1, p => runP r n (tickF p r).1
def thenOf : Code → Code
  | .cond _ x _ => x
  | _ => .skip
def opsOf : Code → Array Oper
  | .region _ ops _ => ops
  | _ => #[]
def opOf (c : Code) (i : Nat) : Oper := (opsOf c).getD i default
@[reducible] def tkS : List (Nat × Sh) := [(2, .ptr 2 gPort), (3, .ptr 3 gRules), (4, .ptr 4 gPort), (7, .val .bool)]
@[reducible] def tkT (t : Nat) : List (Nat × Sh) := [(2, .ptr 2 gPort), (3, .ptr 3 gRules), (4, .ptr 4 gPort), (7, .val .bool), (t, .val .bool)]
@[reducible] def tkM : List (Nat × BSh) := [(2, .var gPort), (3, .var gRules), (4, .var gPort)]
end Go.Ev
