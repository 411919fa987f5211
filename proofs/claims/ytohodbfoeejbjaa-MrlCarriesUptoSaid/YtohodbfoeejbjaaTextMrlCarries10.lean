/- What is heard. -/
import Derived.Test.YtohodbfoeejbjaaTextMrlCarries9

set_option linter.unusedVariables false
set_option linter.unusedSimpArgs false
namespace Go.Ev.P
open Go.Proofs
def hearG : List (Nat × Ctr) := [(117, wtakeC), (118, gatherC), (119, wbitsC), (53, fackC)]
theorem hearG_ok : CtrsOK Try.prog (fun f => lk f hearG) := (ctrs_cons wtake_ok (ctrs_cons gather_ok (ctrs_cons wbits_ok (ctrs_cons fack_ok ctrs_nil))))
abbrev HrS := (List UInt8 × Int × Int × List DPart × Int × Int × Unit) × (DMrl × DHello × DMrl × DMrl × List (List DItem) × Unit)
def hrPre (x : HrS) : Prop := 0 ≤ x.1.2.2.2.2.2.1 ∧ x.1.2.2.2.2.2.1 ≤ x.1.2.2.2.2.1 ∧ x.1.2.2.2.2.1 = x.1.2.2.2.1.length ∧ x.1.2.2.2.2.1 ≤ 100000 ∧ (x.2.2.2.2.2.1.length : Int) ≤ x.1.2.2.2.2.2.1
def hrG (x : HrS) : List DItem × List DItem × Bool × Int := gatherF x.2.2.2.2.1.2.2.2 (x.1.2.2.2.1.getD x.1.2.2.2.2.2.1.toNat part0)
def hrStp (x : HrS) : Ex × HrS :=
  bif decide (x.1.2.2.2.2.2.1 < x.1.2.2.2.2.1) then
    bif (hrG x).2.2.2 != (0 : Int) then (.ret, (([], (hrG x).2.2.2, x.1.2.2), (x.2.1, x.2.2.1, x.2.1, x.2.2.2.2)))
    else (.normal, ((x.1.1, x.1.2.1, x.1.2.2.1, x.1.2.2.2.1, x.1.2.2.2.2.1, x.1.2.2.2.2.2.1 + 1, ()), (x.2.1, x.2.2.1, x.2.2.2.1, (x.2.2.2.2.1.1, x.2.2.2.2.1.2.1, x.2.2.2.2.1.2.2.1, (hrG x).1), (bif (hrG x).2.2.1 then x.2.2.2.2.2.1 ++ [(hrG x).2.1] else x.2.2.2.2.2.1), ())))
  else (.exit 0, x)
def hrMu (x : HrS) : Nat := (x.1.2.2.2.2.1 - x.1.2.2.2.2.2.1).toNat
def hrD : LoopD where
  prom := [(14, 1014, 29, .sl gItem)]
  ts := [(3, .ptr 3 gBox), (4, .ptr 4 gHello), (6, .ptr 6 gBox), (7, .val .str), (8, .nil), (9, .val (.int .i64)), (12, .val (.int .i64)), (13, .ptr 13 gBox), (14, .tip 1014), (44, .val (.sl gPart)), (45, .val (.int .i64)), (46, .val (.int .i64))]
  bs := [(3, .var gBox), (4, .var gHello), (6, .var gBox), (13, .var gBox), (1014, .row 29 (.sl gItem) false)]
  pre := fun (x : HrS) => hrPre x
  out := fun (x : HrS) => out2 0 (runF hrStp (hrMu x + 1) x)
theorem hr_round : (fun x : HrS => roundOf (mkC tys hearG [(0, hrD.spec)]) hrD (loopB 0 (bodyOf (fnOf Try.prog 64))) x) = (fun x => Tree.br (decide (x.1.2.2.2.2.2.1 < x.1.2.2.2.2.1)) (Tree.need ((0 : Int) ≤ x.1.2.2.2.2.2.1 ∧ x.1.2.2.2.2.2.1 < (↑(List.length x.1.2.2.2.1) : Int)) (Tree.br ((gatherF x.2.2.2.2.1.2.2.2 (List.getD x.1.2.2.2.1 (Int.toNat x.1.2.2.2.2.2.1) ((0 : Int), (((0 : Int), (0 : Int)), (0 : Int), (0 : Int)), (0 : Int), false, []))).2.2.2 != (0 : Int)) (Tree.leaf (Ex.ret, some (([], (gatherF x.2.2.2.2.1.2.2.2 (List.getD x.1.2.2.2.1 (Int.toNat x.1.2.2.2.2.2.1) ((0 : Int), (((0 : Int), (0 : Int)), (0 : Int), (0 : Int)), (0 : Int), false, []))).2.2.2, x.1.2.2.1, x.1.2.2.2.1, x.1.2.2.2.2.1, x.1.2.2.2.2.2.1, ()), x.2.1, x.2.2.1, x.2.1, x.2.2.2.2.1, x.2.2.2.2.2.1, ()))) (Tree.need ((gatherF x.2.2.2.2.1.2.2.2 (List.getD x.1.2.2.2.1 (Int.toNat x.1.2.2.2.2.2.1) ((0 : Int), (((0 : Int), (0 : Int)), (0 : Int), (0 : Int)), (0 : Int), false, []))).2.2.1 = true → (List.length x.2.2.2.2.2.1 + (1 : Nat)) * (24 : Nat) ≤ (140737488355328 : Nat)) (Tree.leaf (Ex.normal, some ((x.1.1, x.1.2.1, x.1.2.2.1, x.1.2.2.2.1, x.1.2.2.2.2.1, IntKind.wrap IntKind.i64 (x.1.2.2.2.2.2.1 + (1 : Int)), ()), x.2.1, x.2.2.1, x.2.2.2.1, (x.2.2.2.2.1.1, x.2.2.2.2.1.2.1, x.2.2.2.2.1.2.2.1, (gatherF x.2.2.2.2.1.2.2.2 (List.getD x.1.2.2.2.1 (Int.toNat x.1.2.2.2.2.2.1) ((0 : Int), (((0 : Int), (0 : Int)), (0 : Int), (0 : Int)), (0 : Int), false, []))).1), bif (gatherF x.2.2.2.2.1.2.2.2 (List.getD x.1.2.2.2.1 (Int.toNat x.1.2.2.2.2.2.1) ((0 : Int), (((0 : Int), (0 : Int)), (0 : Int), (0 : Int)), (0 : Int), false, []))).2.2.1 then x.2.2.2.2.2.1 ++ [(gatherF x.2.2.2.2.1.2.2.2 (List.getD x.1.2.2.2.1 (Int.toNat x.1.2.2.2.2.2.1) ((0 : Int), (((0 : Int), (0 : Int)), (0 : Int), (0 : Int)), (0 : Int), false, []))).2.1] else x.2.2.2.2.2.1, ())))))) (Tree.leaf (Ex.exit (0 : Nat), some ((x.1.1, x.1.2.1, x.1.2.2.1, x.1.2.2.2.1, x.1.2.2.2.2.1, x.1.2.2.2.2.2.1, ()), x.2.1, x.2.2.1, x.2.2.2.1, x.2.2.2.2.1, x.2.2.2.2.2.1, ())))) := by kernel_rfl
def hearC : Ctr := { args := [gBox, gHello, gPart], res := [gBox, .str, .sl (.sl gItem), .int .i64], pre := some (fun (x : DMrl × DHello × DPart) => takePre (x.1.2.2.1, x.2.2)), fn := fun (x : DMrl × DHello × DPart) => hearF x.1 x.2.1 x.2.2 }
theorem hear_tree : (fun x : DMrl × DHello × DPart => evFn (mkC tys hearG [(0, hrD.spec)]) (fnOf Try.prog 64) (resL hearC.args x) hearC.res) = (fun x => Tree.need (takePre (x.1.2.2.1, x.2.2)) (Tree.br (bif (wtakeF x.1.2.2.1 x.2.2).2.2 != (0 : Int) then (wtakeF x.1.2.2.1 x.2.2).2.2 != (6 : Int) else false) (Tree.leaf (x.1, [], [], (wtakeF x.1.2.2.1 x.2.2).2.2)) (Tree.need (hrPre (([], (0 : Int), (wtakeF x.1.2.2.1 x.2.2).2.2, (wtakeF x.1.2.2.1 x.2.2).2.1, (↑(List.length (wtakeF x.1.2.2.1 x.2.2).2.1) : Int), (0 : Int), PUnit.unit), x.1, x.2.1, ((0 : Int), [], ((0 : Int), []), []), (x.1.1, x.1.2.1, (wtakeF x.1.2.2.1 x.2.2).1, x.1.2.2.2), [], PUnit.unit)) (Tree.br (isRet (runF hrStp (hrMu (([], (0 : Int), (wtakeF x.1.2.2.1 x.2.2).2.2, (wtakeF x.1.2.2.1 x.2.2).2.1, (↑(List.length (wtakeF x.1.2.2.1 x.2.2).2.1) : Int), (0 : Int), PUnit.unit), x.1, x.2.1, ((0 : Int), [], ((0 : Int), []), []), (x.1.1, x.1.2.1, (wtakeF x.1.2.2.1 x.2.2).1, x.1.2.2.2), [], PUnit.unit) + (1 : Nat)) (([], (0 : Int), (wtakeF x.1.2.2.1 x.2.2).2.2, (wtakeF x.1.2.2.1 x.2.2).2.1, (↑(List.length (wtakeF x.1.2.2.1 x.2.2).2.1) : Int), (0 : Int), PUnit.unit), x.1, x.2.1, ((0 : Int), [], ((0 : Int), []), []), (x.1.1, x.1.2.1, (wtakeF x.1.2.2.1 x.2.2).1, x.1.2.2.2), [], PUnit.unit)).1) (Tree.leaf ((runF hrStp (hrMu (([], (0 : Int), (wtakeF x.1.2.2.1 x.2.2).2.2, (wtakeF x.1.2.2.1 x.2.2).2.1, (↑(List.length (wtakeF x.1.2.2.1 x.2.2).2.1) : Int), (0 : Int), PUnit.unit), x.1, x.2.1, ((0 : Int), [], ((0 : Int), []), []), (x.1.1, x.1.2.1, (wtakeF x.1.2.2.1 x.2.2).1, x.1.2.2.2), [], PUnit.unit) + (1 : Nat)) (([], (0 : Int), (wtakeF x.1.2.2.1 x.2.2).2.2, (wtakeF x.1.2.2.1 x.2.2).2.1, (↑(List.length (wtakeF x.1.2.2.1 x.2.2).2.1) : Int), (0 : Int), PUnit.unit), x.1, x.2.1, ((0 : Int), [], ((0 : Int), []), []), (x.1.1, x.1.2.1, (wtakeF x.1.2.2.1 x.2.2).1, x.1.2.2.2), [], PUnit.unit)).2.2.2.2.1, (runF hrStp (hrMu (([], (0 : Int), (wtakeF x.1.2.2.1 x.2.2).2.2, (wtakeF x.1.2.2.1 x.2.2).2.1, (↑(List.length (wtakeF x.1.2.2.1 x.2.2).2.1) : Int), (0 : Int), PUnit.unit), x.1, x.2.1, ((0 : Int), [], ((0 : Int), []), []), (x.1.1, x.1.2.1, (wtakeF x.1.2.2.1 x.2.2).1, x.1.2.2.2), [], PUnit.unit) + (1 : Nat)) (([], (0 : Int), (wtakeF x.1.2.2.1 x.2.2).2.2, (wtakeF x.1.2.2.1 x.2.2).2.1, (↑(List.length (wtakeF x.1.2.2.1 x.2.2).2.1) : Int), (0 : Int), PUnit.unit), x.1, x.2.1, ((0 : Int), [], ((0 : Int), []), []), (x.1.1, x.1.2.1, (wtakeF x.1.2.2.1 x.2.2).1, x.1.2.2.2), [], PUnit.unit)).2.1.1, [], (runF hrStp (hrMu (([], (0 : Int), (wtakeF x.1.2.2.1 x.2.2).2.2, (wtakeF x.1.2.2.1 x.2.2).2.1, (↑(List.length (wtakeF x.1.2.2.1 x.2.2).2.1) : Int), (0 : Int), PUnit.unit), x.1, x.2.1, ((0 : Int), [], ((0 : Int), []), []), (x.1.1, x.1.2.1, (wtakeF x.1.2.2.1 x.2.2).1, x.1.2.2.2), [], PUnit.unit) + (1 : Nat)) (([], (0 : Int), (wtakeF x.1.2.2.1 x.2.2).2.2, (wtakeF x.1.2.2.1 x.2.2).2.1, (↑(List.length (wtakeF x.1.2.2.1 x.2.2).2.1) : Int), (0 : Int), PUnit.unit), x.1, x.2.1, ((0 : Int), [], ((0 : Int), []), []), (x.1.1, x.1.2.1, (wtakeF x.1.2.2.1 x.2.2).1, x.1.2.2.2), [], PUnit.unit)).2.1.2.1)) (Tree.need (List.length (runF hrStp (hrMu (([], (0 : Int), (wtakeF x.1.2.2.1 x.2.2).2.2, (wtakeF x.1.2.2.1 x.2.2).2.1, (↑(List.length (wtakeF x.1.2.2.1 x.2.2).2.1) : Int), (0 : Int), PUnit.unit), x.1, x.2.1, ((0 : Int), [], ((0 : Int), []), []), (x.1.1, x.1.2.1, (wtakeF x.1.2.2.1 x.2.2).1, x.1.2.2.2), [], PUnit.unit) + (1 : Nat)) (([], (0 : Int), (wtakeF x.1.2.2.1 x.2.2).2.2, (wtakeF x.1.2.2.1 x.2.2).2.1, (↑(List.length (wtakeF x.1.2.2.1 x.2.2).2.1) : Int), (0 : Int), PUnit.unit), x.1, x.2.1, ((0 : Int), [], ((0 : Int), []), []), (x.1.1, x.1.2.1, (wtakeF x.1.2.2.1 x.2.2).1, x.1.2.2.2), [], PUnit.unit)).2.2.2.2.2.1.2.2.1.2 ≤ (100000 : Nat)) (Tree.br ((wrappedF (3 : Int) (ackF ((runF hrStp (hrMu (([], (0 : Int), (wtakeF x.1.2.2.1 x.2.2).2.2, (wtakeF x.1.2.2.1 x.2.2).2.1, (↑(List.length (wtakeF x.1.2.2.1 x.2.2).2.1) : Int), (0 : Int), PUnit.unit), x.1, x.2.1, ((0 : Int), [], ((0 : Int), []), []), (x.1.1, x.1.2.1, (wtakeF x.1.2.2.1 x.2.2).1, x.1.2.2.2), [], PUnit.unit) + (1 : Nat)) (([], (0 : Int), (wtakeF x.1.2.2.1 x.2.2).2.2, (wtakeF x.1.2.2.1 x.2.2).2.1, (↑(List.length (wtakeF x.1.2.2.1 x.2.2).2.1) : Int), (0 : Int), PUnit.unit), x.1, x.2.1, ((0 : Int), [], ((0 : Int), []), []), (x.1.1, x.1.2.1, (wtakeF x.1.2.2.1 x.2.2).1, x.1.2.2.2), [], PUnit.unit)).2.2.2.1.1, (runF hrStp (hrMu (([], (0 : Int), (wtakeF x.1.2.2.1 x.2.2).2.2, (wtakeF x.1.2.2.1 x.2.2).2.1, (↑(List.length (wtakeF x.1.2.2.1 x.2.2).2.1) : Int), (0 : Int), PUnit.unit), x.1, x.2.1, ((0 : Int), [], ((0 : Int), []), []), (x.1.1, x.1.2.1, (wtakeF x.1.2.2.1 x.2.2).1, x.1.2.2.2), [], PUnit.unit) + (1 : Nat)) (([], (0 : Int), (wtakeF x.1.2.2.1 x.2.2).2.2, (wtakeF x.1.2.2.1 x.2.2).2.1, (↑(List.length (wtakeF x.1.2.2.1 x.2.2).2.1) : Int), (0 : Int), PUnit.unit), x.1, x.2.1, ((0 : Int), [], ((0 : Int), []), []), (x.1.1, x.1.2.1, (wtakeF x.1.2.2.1 x.2.2).1, x.1.2.2.2), [], PUnit.unit)).2.2.2.1.2, (bitsA (runF hrStp (hrMu (([], (0 : Int), (wtakeF x.1.2.2.1 x.2.2).2.2, (wtakeF x.1.2.2.1 x.2.2).2.1, (↑(List.length (wtakeF x.1.2.2.1 x.2.2).2.1) : Int), (0 : Int), PUnit.unit), x.1, x.2.1, ((0 : Int), [], ((0 : Int), []), []), (x.1.1, x.1.2.1, (wtakeF x.1.2.2.1 x.2.2).1, x.1.2.2.2), [], PUnit.unit) + (1 : Nat)) (([], (0 : Int), (wtakeF x.1.2.2.1 x.2.2).2.2, (wtakeF x.1.2.2.1 x.2.2).2.1, (↑(List.length (wtakeF x.1.2.2.1 x.2.2).2.1) : Int), (0 : Int), PUnit.unit), x.1, x.2.1, ((0 : Int), [], ((0 : Int), []), []), (x.1.1, x.1.2.1, (wtakeF x.1.2.2.1 x.2.2).1, x.1.2.2.2), [], PUnit.unit)).2.2.2.2.2.1.2.2.1.1 (seqsF (runF hrStp (hrMu (([], (0 : Int), (wtakeF x.1.2.2.1 x.2.2).2.2, (wtakeF x.1.2.2.1 x.2.2).2.1, (↑(List.length (wtakeF x.1.2.2.1 x.2.2).2.1) : Int), (0 : Int), PUnit.unit), x.1, x.2.1, ((0 : Int), [], ((0 : Int), []), []), (x.1.1, x.1.2.1, (wtakeF x.1.2.2.1 x.2.2).1, x.1.2.2.2), [], PUnit.unit) + (1 : Nat)) (([], (0 : Int), (wtakeF x.1.2.2.1 x.2.2).2.2, (wtakeF x.1.2.2.1 x.2.2).2.1, (↑(List.length (wtakeF x.1.2.2.1 x.2.2).2.1) : Int), (0 : Int), PUnit.unit), x.1, x.2.1, ((0 : Int), [], ((0 : Int), []), []), (x.1.1, x.1.2.1, (wtakeF x.1.2.2.1 x.2.2).1, x.1.2.2.2), [], PUnit.unit)).2.2.2.2.2.1.2.2.1)).1, (bitsA (runF hrStp (hrMu (([], (0 : Int), (wtakeF x.1.2.2.1 x.2.2).2.2, (wtakeF x.1.2.2.1 x.2.2).2.1, (↑(List.length (wtakeF x.1.2.2.1 x.2.2).2.1) : Int), (0 : Int), PUnit.unit), x.1, x.2.1, ((0 : Int), [], ((0 : Int), []), []), (x.1.1, x.1.2.1, (wtakeF x.1.2.2.1 x.2.2).1, x.1.2.2.2), [], PUnit.unit) + (1 : Nat)) (([], (0 : Int), (wtakeF x.1.2.2.1 x.2.2).2.2, (wtakeF x.1.2.2.1 x.2.2).2.1, (↑(List.length (wtakeF x.1.2.2.1 x.2.2).2.1) : Int), (0 : Int), PUnit.unit), x.1, x.2.1, ((0 : Int), [], ((0 : Int), []), []), (x.1.1, x.1.2.1, (wtakeF x.1.2.2.1 x.2.2).1, x.1.2.2.2), [], PUnit.unit)).2.2.2.2.2.1.2.2.1.1 (seqsF (runF hrStp (hrMu (([], (0 : Int), (wtakeF x.1.2.2.1 x.2.2).2.2, (wtakeF x.1.2.2.1 x.2.2).2.1, (↑(List.length (wtakeF x.1.2.2.1 x.2.2).2.1) : Int), (0 : Int), PUnit.unit), x.1, x.2.1, ((0 : Int), [], ((0 : Int), []), []), (x.1.1, x.1.2.1, (wtakeF x.1.2.2.1 x.2.2).1, x.1.2.2.2), [], PUnit.unit) + (1 : Nat)) (([], (0 : Int), (wtakeF x.1.2.2.1 x.2.2).2.2, (wtakeF x.1.2.2.1 x.2.2).2.1, (↑(List.length (wtakeF x.1.2.2.1 x.2.2).2.1) : Int), (0 : Int), PUnit.unit), x.1, x.2.1, ((0 : Int), [], ((0 : Int), []), []), (x.1.1, x.1.2.1, (wtakeF x.1.2.2.1 x.2.2).1, x.1.2.2.2), [], PUnit.unit)).2.2.2.2.2.1.2.2.1)).2)).1 (ackF ((runF hrStp (hrMu (([], (0 : Int), (wtakeF x.1.2.2.1 x.2.2).2.2, (wtakeF x.1.2.2.1 x.2.2).2.1, (↑(List.length (wtakeF x.1.2.2.1 x.2.2).2.1) : Int), (0 : Int), PUnit.unit), x.1, x.2.1, ((0 : Int), [], ((0 : Int), []), []), (x.1.1, x.1.2.1, (wtakeF x.1.2.2.1 x.2.2).1, x.1.2.2.2), [], PUnit.unit) + (1 : Nat)) (([], (0 : Int), (wtakeF x.1.2.2.1 x.2.2).2.2, (wtakeF x.1.2.2.1 x.2.2).2.1, (↑(List.length (wtakeF x.1.2.2.1 x.2.2).2.1) : Int), (0 : Int), PUnit.unit), x.1, x.2.1, ((0 : Int), [], ((0 : Int), []), []), (x.1.1, x.1.2.1, (wtakeF x.1.2.2.1 x.2.2).1, x.1.2.2.2), [], PUnit.unit)).2.2.2.1.1, (runF hrStp (hrMu (([], (0 : Int), (wtakeF x.1.2.2.1 x.2.2).2.2, (wtakeF x.1.2.2.1 x.2.2).2.1, (↑(List.length (wtakeF x.1.2.2.1 x.2.2).2.1) : Int), (0 : Int), PUnit.unit), x.1, x.2.1, ((0 : Int), [], ((0 : Int), []), []), (x.1.1, x.1.2.1, (wtakeF x.1.2.2.1 x.2.2).1, x.1.2.2.2), [], PUnit.unit) + (1 : Nat)) (([], (0 : Int), (wtakeF x.1.2.2.1 x.2.2).2.2, (wtakeF x.1.2.2.1 x.2.2).2.1, (↑(List.length (wtakeF x.1.2.2.1 x.2.2).2.1) : Int), (0 : Int), PUnit.unit), x.1, x.2.1, ((0 : Int), [], ((0 : Int), []), []), (x.1.1, x.1.2.1, (wtakeF x.1.2.2.1 x.2.2).1, x.1.2.2.2), [], PUnit.unit)).2.2.2.1.2, (bitsA (runF hrStp (hrMu (([], (0 : Int), (wtakeF x.1.2.2.1 x.2.2).2.2, (wtakeF x.1.2.2.1 x.2.2).2.1, (↑(List.length (wtakeF x.1.2.2.1 x.2.2).2.1) : Int), (0 : Int), PUnit.unit), x.1, x.2.1, ((0 : Int), [], ((0 : Int), []), []), (x.1.1, x.1.2.1, (wtakeF x.1.2.2.1 x.2.2).1, x.1.2.2.2), [], PUnit.unit) + (1 : Nat)) (([], (0 : Int), (wtakeF x.1.2.2.1 x.2.2).2.2, (wtakeF x.1.2.2.1 x.2.2).2.1, (↑(List.length (wtakeF x.1.2.2.1 x.2.2).2.1) : Int), (0 : Int), PUnit.unit), x.1, x.2.1, ((0 : Int), [], ((0 : Int), []), []), (x.1.1, x.1.2.1, (wtakeF x.1.2.2.1 x.2.2).1, x.1.2.2.2), [], PUnit.unit)).2.2.2.2.2.1.2.2.1.1 (seqsF (runF hrStp (hrMu (([], (0 : Int), (wtakeF x.1.2.2.1 x.2.2).2.2, (wtakeF x.1.2.2.1 x.2.2).2.1, (↑(List.length (wtakeF x.1.2.2.1 x.2.2).2.1) : Int), (0 : Int), PUnit.unit), x.1, x.2.1, ((0 : Int), [], ((0 : Int), []), []), (x.1.1, x.1.2.1, (wtakeF x.1.2.2.1 x.2.2).1, x.1.2.2.2), [], PUnit.unit) + (1 : Nat)) (([], (0 : Int), (wtakeF x.1.2.2.1 x.2.2).2.2, (wtakeF x.1.2.2.1 x.2.2).2.1, (↑(List.length (wtakeF x.1.2.2.1 x.2.2).2.1) : Int), (0 : Int), PUnit.unit), x.1, x.2.1, ((0 : Int), [], ((0 : Int), []), []), (x.1.1, x.1.2.1, (wtakeF x.1.2.2.1 x.2.2).1, x.1.2.2.2), [], PUnit.unit)).2.2.2.2.2.1.2.2.1)).1, (bitsA (runF hrStp (hrMu (([], (0 : Int), (wtakeF x.1.2.2.1 x.2.2).2.2, (wtakeF x.1.2.2.1 x.2.2).2.1, (↑(List.length (wtakeF x.1.2.2.1 x.2.2).2.1) : Int), (0 : Int), PUnit.unit), x.1, x.2.1, ((0 : Int), [], ((0 : Int), []), []), (x.1.1, x.1.2.1, (wtakeF x.1.2.2.1 x.2.2).1, x.1.2.2.2), [], PUnit.unit) + (1 : Nat)) (([], (0 : Int), (wtakeF x.1.2.2.1 x.2.2).2.2, (wtakeF x.1.2.2.1 x.2.2).2.1, (↑(List.length (wtakeF x.1.2.2.1 x.2.2).2.1) : Int), (0 : Int), PUnit.unit), x.1, x.2.1, ((0 : Int), [], ((0 : Int), []), []), (x.1.1, x.1.2.1, (wtakeF x.1.2.2.1 x.2.2).1, x.1.2.2.2), [], PUnit.unit)).2.2.2.2.2.1.2.2.1.1 (seqsF (runF hrStp (hrMu (([], (0 : Int), (wtakeF x.1.2.2.1 x.2.2).2.2, (wtakeF x.1.2.2.1 x.2.2).2.1, (↑(List.length (wtakeF x.1.2.2.1 x.2.2).2.1) : Int), (0 : Int), PUnit.unit), x.1, x.2.1, ((0 : Int), [], ((0 : Int), []), []), (x.1.1, x.1.2.1, (wtakeF x.1.2.2.1 x.2.2).1, x.1.2.2.2), [], PUnit.unit) + (1 : Nat)) (([], (0 : Int), (wtakeF x.1.2.2.1 x.2.2).2.2, (wtakeF x.1.2.2.1 x.2.2).2.1, (↑(List.length (wtakeF x.1.2.2.1 x.2.2).2.1) : Int), (0 : Int), PUnit.unit), x.1, x.2.1, ((0 : Int), [], ((0 : Int), []), []), (x.1.1, x.1.2.1, (wtakeF x.1.2.2.1 x.2.2).1, x.1.2.2.2), [], PUnit.unit)).2.2.2.2.2.1.2.2.1)).2)).2).2 != (0 : Int)) (Tree.leaf ((runF hrStp (hrMu (([], (0 : Int), (wtakeF x.1.2.2.1 x.2.2).2.2, (wtakeF x.1.2.2.1 x.2.2).2.1, (↑(List.length (wtakeF x.1.2.2.1 x.2.2).2.1) : Int), (0 : Int), PUnit.unit), x.1, x.2.1, ((0 : Int), [], ((0 : Int), []), []), (x.1.1, x.1.2.1, (wtakeF x.1.2.2.1 x.2.2).1, x.1.2.2.2), [], PUnit.unit) + (1 : Nat)) (([], (0 : Int), (wtakeF x.1.2.2.1 x.2.2).2.2, (wtakeF x.1.2.2.1 x.2.2).2.1, (↑(List.length (wtakeF x.1.2.2.1 x.2.2).2.1) : Int), (0 : Int), PUnit.unit), x.1, x.2.1, ((0 : Int), [], ((0 : Int), []), []), (x.1.1, x.1.2.1, (wtakeF x.1.2.2.1 x.2.2).1, x.1.2.2.2), [], PUnit.unit)).2.2.1, [], [], (wrappedF (3 : Int) (ackF ((runF hrStp (hrMu (([], (0 : Int), (wtakeF x.1.2.2.1 x.2.2).2.2, (wtakeF x.1.2.2.1 x.2.2).2.1, (↑(List.length (wtakeF x.1.2.2.1 x.2.2).2.1) : Int), (0 : Int), PUnit.unit), x.1, x.2.1, ((0 : Int), [], ((0 : Int), []), []), (x.1.1, x.1.2.1, (wtakeF x.1.2.2.1 x.2.2).1, x.1.2.2.2), [], PUnit.unit) + (1 : Nat)) (([], (0 : Int), (wtakeF x.1.2.2.1 x.2.2).2.2, (wtakeF x.1.2.2.1 x.2.2).2.1, (↑(List.length (wtakeF x.1.2.2.1 x.2.2).2.1) : Int), (0 : Int), PUnit.unit), x.1, x.2.1, ((0 : Int), [], ((0 : Int), []), []), (x.1.1, x.1.2.1, (wtakeF x.1.2.2.1 x.2.2).1, x.1.2.2.2), [], PUnit.unit)).2.2.2.1.1, (runF hrStp (hrMu (([], (0 : Int), (wtakeF x.1.2.2.1 x.2.2).2.2, (wtakeF x.1.2.2.1 x.2.2).2.1, (↑(List.length (wtakeF x.1.2.2.1 x.2.2).2.1) : Int), (0 : Int), PUnit.unit), x.1, x.2.1, ((0 : Int), [], ((0 : Int), []), []), (x.1.1, x.1.2.1, (wtakeF x.1.2.2.1 x.2.2).1, x.1.2.2.2), [], PUnit.unit) + (1 : Nat)) (([], (0 : Int), (wtakeF x.1.2.2.1 x.2.2).2.2, (wtakeF x.1.2.2.1 x.2.2).2.1, (↑(List.length (wtakeF x.1.2.2.1 x.2.2).2.1) : Int), (0 : Int), PUnit.unit), x.1, x.2.1, ((0 : Int), [], ((0 : Int), []), []), (x.1.1, x.1.2.1, (wtakeF x.1.2.2.1 x.2.2).1, x.1.2.2.2), [], PUnit.unit)).2.2.2.1.2, (bitsA (runF hrStp (hrMu (([], (0 : Int), (wtakeF x.1.2.2.1 x.2.2).2.2, (wtakeF x.1.2.2.1 x.2.2).2.1, (↑(List.length (wtakeF x.1.2.2.1 x.2.2).2.1) : Int), (0 : Int), PUnit.unit), x.1, x.2.1, ((0 : Int), [], ((0 : Int), []), []), (x.1.1, x.1.2.1, (wtakeF x.1.2.2.1 x.2.2).1, x.1.2.2.2), [], PUnit.unit) + (1 : Nat)) (([], (0 : Int), (wtakeF x.1.2.2.1 x.2.2).2.2, (wtakeF x.1.2.2.1 x.2.2).2.1, (↑(List.length (wtakeF x.1.2.2.1 x.2.2).2.1) : Int), (0 : Int), PUnit.unit), x.1, x.2.1, ((0 : Int), [], ((0 : Int), []), []), (x.1.1, x.1.2.1, (wtakeF x.1.2.2.1 x.2.2).1, x.1.2.2.2), [], PUnit.unit)).2.2.2.2.2.1.2.2.1.1 (seqsF (runF hrStp (hrMu (([], (0 : Int), (wtakeF x.1.2.2.1 x.2.2).2.2, (wtakeF x.1.2.2.1 x.2.2).2.1, (↑(List.length (wtakeF x.1.2.2.1 x.2.2).2.1) : Int), (0 : Int), PUnit.unit), x.1, x.2.1, ((0 : Int), [], ((0 : Int), []), []), (x.1.1, x.1.2.1, (wtakeF x.1.2.2.1 x.2.2).1, x.1.2.2.2), [], PUnit.unit) + (1 : Nat)) (([], (0 : Int), (wtakeF x.1.2.2.1 x.2.2).2.2, (wtakeF x.1.2.2.1 x.2.2).2.1, (↑(List.length (wtakeF x.1.2.2.1 x.2.2).2.1) : Int), (0 : Int), PUnit.unit), x.1, x.2.1, ((0 : Int), [], ((0 : Int), []), []), (x.1.1, x.1.2.1, (wtakeF x.1.2.2.1 x.2.2).1, x.1.2.2.2), [], PUnit.unit)).2.2.2.2.2.1.2.2.1)).1, (bitsA (runF hrStp (hrMu (([], (0 : Int), (wtakeF x.1.2.2.1 x.2.2).2.2, (wtakeF x.1.2.2.1 x.2.2).2.1, (↑(List.length (wtakeF x.1.2.2.1 x.2.2).2.1) : Int), (0 : Int), PUnit.unit), x.1, x.2.1, ((0 : Int), [], ((0 : Int), []), []), (x.1.1, x.1.2.1, (wtakeF x.1.2.2.1 x.2.2).1, x.1.2.2.2), [], PUnit.unit) + (1 : Nat)) (([], (0 : Int), (wtakeF x.1.2.2.1 x.2.2).2.2, (wtakeF x.1.2.2.1 x.2.2).2.1, (↑(List.length (wtakeF x.1.2.2.1 x.2.2).2.1) : Int), (0 : Int), PUnit.unit), x.1, x.2.1, ((0 : Int), [], ((0 : Int), []), []), (x.1.1, x.1.2.1, (wtakeF x.1.2.2.1 x.2.2).1, x.1.2.2.2), [], PUnit.unit)).2.2.2.2.2.1.2.2.1.1 (seqsF (runF hrStp (hrMu (([], (0 : Int), (wtakeF x.1.2.2.1 x.2.2).2.2, (wtakeF x.1.2.2.1 x.2.2).2.1, (↑(List.length (wtakeF x.1.2.2.1 x.2.2).2.1) : Int), (0 : Int), PUnit.unit), x.1, x.2.1, ((0 : Int), [], ((0 : Int), []), []), (x.1.1, x.1.2.1, (wtakeF x.1.2.2.1 x.2.2).1, x.1.2.2.2), [], PUnit.unit) + (1 : Nat)) (([], (0 : Int), (wtakeF x.1.2.2.1 x.2.2).2.2, (wtakeF x.1.2.2.1 x.2.2).2.1, (↑(List.length (wtakeF x.1.2.2.1 x.2.2).2.1) : Int), (0 : Int), PUnit.unit), x.1, x.2.1, ((0 : Int), [], ((0 : Int), []), []), (x.1.1, x.1.2.1, (wtakeF x.1.2.2.1 x.2.2).1, x.1.2.2.2), [], PUnit.unit)).2.2.2.2.2.1.2.2.1)).2)).1 (ackF ((runF hrStp (hrMu (([], (0 : Int), (wtakeF x.1.2.2.1 x.2.2).2.2, (wtakeF x.1.2.2.1 x.2.2).2.1, (↑(List.length (wtakeF x.1.2.2.1 x.2.2).2.1) : Int), (0 : Int), PUnit.unit), x.1, x.2.1, ((0 : Int), [], ((0 : Int), []), []), (x.1.1, x.1.2.1, (wtakeF x.1.2.2.1 x.2.2).1, x.1.2.2.2), [], PUnit.unit) + (1 : Nat)) (([], (0 : Int), (wtakeF x.1.2.2.1 x.2.2).2.2, (wtakeF x.1.2.2.1 x.2.2).2.1, (↑(List.length (wtakeF x.1.2.2.1 x.2.2).2.1) : Int), (0 : Int), PUnit.unit), x.1, x.2.1, ((0 : Int), [], ((0 : Int), []), []), (x.1.1, x.1.2.1, (wtakeF x.1.2.2.1 x.2.2).1, x.1.2.2.2), [], PUnit.unit)).2.2.2.1.1, (runF hrStp (hrMu (([], (0 : Int), (wtakeF x.1.2.2.1 x.2.2).2.2, (wtakeF x.1.2.2.1 x.2.2).2.1, (↑(List.length (wtakeF x.1.2.2.1 x.2.2).2.1) : Int), (0 : Int), PUnit.unit), x.1, x.2.1, ((0 : Int), [], ((0 : Int), []), []), (x.1.1, x.1.2.1, (wtakeF x.1.2.2.1 x.2.2).1, x.1.2.2.2), [], PUnit.unit) + (1 : Nat)) (([], (0 : Int), (wtakeF x.1.2.2.1 x.2.2).2.2, (wtakeF x.1.2.2.1 x.2.2).2.1, (↑(List.length (wtakeF x.1.2.2.1 x.2.2).2.1) : Int), (0 : Int), PUnit.unit), x.1, x.2.1, ((0 : Int), [], ((0 : Int), []), []), (x.1.1, x.1.2.1, (wtakeF x.1.2.2.1 x.2.2).1, x.1.2.2.2), [], PUnit.unit)).2.2.2.1.2, (bitsA (runF hrStp (hrMu (([], (0 : Int), (wtakeF x.1.2.2.1 x.2.2).2.2, (wtakeF x.1.2.2.1 x.2.2).2.1, (↑(List.length (wtakeF x.1.2.2.1 x.2.2).2.1) : Int), (0 : Int), PUnit.unit), x.1, x.2.1, ((0 : Int), [], ((0 : Int), []), []), (x.1.1, x.1.2.1, (wtakeF x.1.2.2.1 x.2.2).1, x.1.2.2.2), [], PUnit.unit) + (1 : Nat)) (([], (0 : Int), (wtakeF x.1.2.2.1 x.2.2).2.2, (wtakeF x.1.2.2.1 x.2.2).2.1, (↑(List.length (wtakeF x.1.2.2.1 x.2.2).2.1) : Int), (0 : Int), PUnit.unit), x.1, x.2.1, ((0 : Int), [], ((0 : Int), []), []), (x.1.1, x.1.2.1, (wtakeF x.1.2.2.1 x.2.2).1, x.1.2.2.2), [], PUnit.unit)).2.2.2.2.2.1.2.2.1.1 (seqsF (runF hrStp (hrMu (([], (0 : Int), (wtakeF x.1.2.2.1 x.2.2).2.2, (wtakeF x.1.2.2.1 x.2.2).2.1, (↑(List.length (wtakeF x.1.2.2.1 x.2.2).2.1) : Int), (0 : Int), PUnit.unit), x.1, x.2.1, ((0 : Int), [], ((0 : Int), []), []), (x.1.1, x.1.2.1, (wtakeF x.1.2.2.1 x.2.2).1, x.1.2.2.2), [], PUnit.unit) + (1 : Nat)) (([], (0 : Int), (wtakeF x.1.2.2.1 x.2.2).2.2, (wtakeF x.1.2.2.1 x.2.2).2.1, (↑(List.length (wtakeF x.1.2.2.1 x.2.2).2.1) : Int), (0 : Int), PUnit.unit), x.1, x.2.1, ((0 : Int), [], ((0 : Int), []), []), (x.1.1, x.1.2.1, (wtakeF x.1.2.2.1 x.2.2).1, x.1.2.2.2), [], PUnit.unit)).2.2.2.2.2.1.2.2.1)).1, (bitsA (runF hrStp (hrMu (([], (0 : Int), (wtakeF x.1.2.2.1 x.2.2).2.2, (wtakeF x.1.2.2.1 x.2.2).2.1, (↑(List.length (wtakeF x.1.2.2.1 x.2.2).2.1) : Int), (0 : Int), PUnit.unit), x.1, x.2.1, ((0 : Int), [], ((0 : Int), []), []), (x.1.1, x.1.2.1, (wtakeF x.1.2.2.1 x.2.2).1, x.1.2.2.2), [], PUnit.unit) + (1 : Nat)) (([], (0 : Int), (wtakeF x.1.2.2.1 x.2.2).2.2, (wtakeF x.1.2.2.1 x.2.2).2.1, (↑(List.length (wtakeF x.1.2.2.1 x.2.2).2.1) : Int), (0 : Int), PUnit.unit), x.1, x.2.1, ((0 : Int), [], ((0 : Int), []), []), (x.1.1, x.1.2.1, (wtakeF x.1.2.2.1 x.2.2).1, x.1.2.2.2), [], PUnit.unit)).2.2.2.2.2.1.2.2.1.1 (seqsF (runF hrStp (hrMu (([], (0 : Int), (wtakeF x.1.2.2.1 x.2.2).2.2, (wtakeF x.1.2.2.1 x.2.2).2.1, (↑(List.length (wtakeF x.1.2.2.1 x.2.2).2.1) : Int), (0 : Int), PUnit.unit), x.1, x.2.1, ((0 : Int), [], ((0 : Int), []), []), (x.1.1, x.1.2.1, (wtakeF x.1.2.2.1 x.2.2).1, x.1.2.2.2), [], PUnit.unit) + (1 : Nat)) (([], (0 : Int), (wtakeF x.1.2.2.1 x.2.2).2.2, (wtakeF x.1.2.2.1 x.2.2).2.1, (↑(List.length (wtakeF x.1.2.2.1 x.2.2).2.1) : Int), (0 : Int), PUnit.unit), x.1, x.2.1, ((0 : Int), [], ((0 : Int), []), []), (x.1.1, x.1.2.1, (wtakeF x.1.2.2.1 x.2.2).1, x.1.2.2.2), [], PUnit.unit)).2.2.2.2.2.1.2.2.1)).2)).2).2)) (Tree.leaf ((runF hrStp (hrMu (([], (0 : Int), (wtakeF x.1.2.2.1 x.2.2).2.2, (wtakeF x.1.2.2.1 x.2.2).2.1, (↑(List.length (wtakeF x.1.2.2.1 x.2.2).2.1) : Int), (0 : Int), PUnit.unit), x.1, x.2.1, ((0 : Int), [], ((0 : Int), []), []), (x.1.1, x.1.2.1, (wtakeF x.1.2.2.1 x.2.2).1, x.1.2.2.2), [], PUnit.unit) + (1 : Nat)) (([], (0 : Int), (wtakeF x.1.2.2.1 x.2.2).2.2, (wtakeF x.1.2.2.1 x.2.2).2.1, (↑(List.length (wtakeF x.1.2.2.1 x.2.2).2.1) : Int), (0 : Int), PUnit.unit), x.1, x.2.1, ((0 : Int), [], ((0 : Int), []), []), (x.1.1, x.1.2.1, (wtakeF x.1.2.2.1 x.2.2).1, x.1.2.2.2), [], PUnit.unit)).2.2.2.2.2.1, (wrappedF (3 : Int) (ackF ((runF hrStp (hrMu (([], (0 : Int), (wtakeF x.1.2.2.1 x.2.2).2.2, (wtakeF x.1.2.2.1 x.2.2).2.1, (↑(List.length (wtakeF x.1.2.2.1 x.2.2).2.1) : Int), (0 : Int), PUnit.unit), x.1, x.2.1, ((0 : Int), [], ((0 : Int), []), []), (x.1.1, x.1.2.1, (wtakeF x.1.2.2.1 x.2.2).1, x.1.2.2.2), [], PUnit.unit) + (1 : Nat)) (([], (0 : Int), (wtakeF x.1.2.2.1 x.2.2).2.2, (wtakeF x.1.2.2.1 x.2.2).2.1, (↑(List.length (wtakeF x.1.2.2.1 x.2.2).2.1) : Int), (0 : Int), PUnit.unit), x.1, x.2.1, ((0 : Int), [], ((0 : Int), []), []), (x.1.1, x.1.2.1, (wtakeF x.1.2.2.1 x.2.2).1, x.1.2.2.2), [], PUnit.unit)).2.2.2.1.1, (runF hrStp (hrMu (([], (0 : Int), (wtakeF x.1.2.2.1 x.2.2).2.2, (wtakeF x.1.2.2.1 x.2.2).2.1, (↑(List.length (wtakeF x.1.2.2.1 x.2.2).2.1) : Int), (0 : Int), PUnit.unit), x.1, x.2.1, ((0 : Int), [], ((0 : Int), []), []), (x.1.1, x.1.2.1, (wtakeF x.1.2.2.1 x.2.2).1, x.1.2.2.2), [], PUnit.unit) + (1 : Nat)) (([], (0 : Int), (wtakeF x.1.2.2.1 x.2.2).2.2, (wtakeF x.1.2.2.1 x.2.2).2.1, (↑(List.length (wtakeF x.1.2.2.1 x.2.2).2.1) : Int), (0 : Int), PUnit.unit), x.1, x.2.1, ((0 : Int), [], ((0 : Int), []), []), (x.1.1, x.1.2.1, (wtakeF x.1.2.2.1 x.2.2).1, x.1.2.2.2), [], PUnit.unit)).2.2.2.1.2, (bitsA (runF hrStp (hrMu (([], (0 : Int), (wtakeF x.1.2.2.1 x.2.2).2.2, (wtakeF x.1.2.2.1 x.2.2).2.1, (↑(List.length (wtakeF x.1.2.2.1 x.2.2).2.1) : Int), (0 : Int), PUnit.unit), x.1, x.2.1, ((0 : Int), [], ((0 : Int), []), []), (x.1.1, x.1.2.1, (wtakeF x.1.2.2.1 x.2.2).1, x.1.2.2.2), [], PUnit.unit) + (1 : Nat)) (([], (0 : Int), (wtakeF x.1.2.2.1 x.2.2).2.2, (wtakeF x.1.2.2.1 x.2.2).2.1, (↑(List.length (wtakeF x.1.2.2.1 x.2.2).2.1) : Int), (0 : Int), PUnit.unit), x.1, x.2.1, ((0 : Int), [], ((0 : Int), []), []), (x.1.1, x.1.2.1, (wtakeF x.1.2.2.1 x.2.2).1, x.1.2.2.2), [], PUnit.unit)).2.2.2.2.2.1.2.2.1.1 (seqsF (runF hrStp (hrMu (([], (0 : Int), (wtakeF x.1.2.2.1 x.2.2).2.2, (wtakeF x.1.2.2.1 x.2.2).2.1, (↑(List.length (wtakeF x.1.2.2.1 x.2.2).2.1) : Int), (0 : Int), PUnit.unit), x.1, x.2.1, ((0 : Int), [], ((0 : Int), []), []), (x.1.1, x.1.2.1, (wtakeF x.1.2.2.1 x.2.2).1, x.1.2.2.2), [], PUnit.unit) + (1 : Nat)) (([], (0 : Int), (wtakeF x.1.2.2.1 x.2.2).2.2, (wtakeF x.1.2.2.1 x.2.2).2.1, (↑(List.length (wtakeF x.1.2.2.1 x.2.2).2.1) : Int), (0 : Int), PUnit.unit), x.1, x.2.1, ((0 : Int), [], ((0 : Int), []), []), (x.1.1, x.1.2.1, (wtakeF x.1.2.2.1 x.2.2).1, x.1.2.2.2), [], PUnit.unit)).2.2.2.2.2.1.2.2.1)).1, (bitsA (runF hrStp (hrMu (([], (0 : Int), (wtakeF x.1.2.2.1 x.2.2).2.2, (wtakeF x.1.2.2.1 x.2.2).2.1, (↑(List.length (wtakeF x.1.2.2.1 x.2.2).2.1) : Int), (0 : Int), PUnit.unit), x.1, x.2.1, ((0 : Int), [], ((0 : Int), []), []), (x.1.1, x.1.2.1, (wtakeF x.1.2.2.1 x.2.2).1, x.1.2.2.2), [], PUnit.unit) + (1 : Nat)) (([], (0 : Int), (wtakeF x.1.2.2.1 x.2.2).2.2, (wtakeF x.1.2.2.1 x.2.2).2.1, (↑(List.length (wtakeF x.1.2.2.1 x.2.2).2.1) : Int), (0 : Int), PUnit.unit), x.1, x.2.1, ((0 : Int), [], ((0 : Int), []), []), (x.1.1, x.1.2.1, (wtakeF x.1.2.2.1 x.2.2).1, x.1.2.2.2), [], PUnit.unit)).2.2.2.2.2.1.2.2.1.1 (seqsF (runF hrStp (hrMu (([], (0 : Int), (wtakeF x.1.2.2.1 x.2.2).2.2, (wtakeF x.1.2.2.1 x.2.2).2.1, (↑(List.length (wtakeF x.1.2.2.1 x.2.2).2.1) : Int), (0 : Int), PUnit.unit), x.1, x.2.1, ((0 : Int), [], ((0 : Int), []), []), (x.1.1, x.1.2.1, (wtakeF x.1.2.2.1 x.2.2).1, x.1.2.2.2), [], PUnit.unit) + (1 : Nat)) (([], (0 : Int), (wtakeF x.1.2.2.1 x.2.2).2.2, (wtakeF x.1.2.2.1 x.2.2).2.1, (↑(List.length (wtakeF x.1.2.2.1 x.2.2).2.1) : Int), (0 : Int), PUnit.unit), x.1, x.2.1, ((0 : Int), [], ((0 : Int), []), []), (x.1.1, x.1.2.1, (wtakeF x.1.2.2.1 x.2.2).1, x.1.2.2.2), [], PUnit.unit)).2.2.2.2.2.1.2.2.1)).2)).1 (ackF ((runF hrStp (hrMu (([], (0 : Int), (wtakeF x.1.2.2.1 x.2.2).2.2, (wtakeF x.1.2.2.1 x.2.2).2.1, (↑(List.length (wtakeF x.1.2.2.1 x.2.2).2.1) : Int), (0 : Int), PUnit.unit), x.1, x.2.1, ((0 : Int), [], ((0 : Int), []), []), (x.1.1, x.1.2.1, (wtakeF x.1.2.2.1 x.2.2).1, x.1.2.2.2), [], PUnit.unit) + (1 : Nat)) (([], (0 : Int), (wtakeF x.1.2.2.1 x.2.2).2.2, (wtakeF x.1.2.2.1 x.2.2).2.1, (↑(List.length (wtakeF x.1.2.2.1 x.2.2).2.1) : Int), (0 : Int), PUnit.unit), x.1, x.2.1, ((0 : Int), [], ((0 : Int), []), []), (x.1.1, x.1.2.1, (wtakeF x.1.2.2.1 x.2.2).1, x.1.2.2.2), [], PUnit.unit)).2.2.2.1.1, (runF hrStp (hrMu (([], (0 : Int), (wtakeF x.1.2.2.1 x.2.2).2.2, (wtakeF x.1.2.2.1 x.2.2).2.1, (↑(List.length (wtakeF x.1.2.2.1 x.2.2).2.1) : Int), (0 : Int), PUnit.unit), x.1, x.2.1, ((0 : Int), [], ((0 : Int), []), []), (x.1.1, x.1.2.1, (wtakeF x.1.2.2.1 x.2.2).1, x.1.2.2.2), [], PUnit.unit) + (1 : Nat)) (([], (0 : Int), (wtakeF x.1.2.2.1 x.2.2).2.2, (wtakeF x.1.2.2.1 x.2.2).2.1, (↑(List.length (wtakeF x.1.2.2.1 x.2.2).2.1) : Int), (0 : Int), PUnit.unit), x.1, x.2.1, ((0 : Int), [], ((0 : Int), []), []), (x.1.1, x.1.2.1, (wtakeF x.1.2.2.1 x.2.2).1, x.1.2.2.2), [], PUnit.unit)).2.2.2.1.2, (bitsA (runF hrStp (hrMu (([], (0 : Int), (wtakeF x.1.2.2.1 x.2.2).2.2, (wtakeF x.1.2.2.1 x.2.2).2.1, (↑(List.length (wtakeF x.1.2.2.1 x.2.2).2.1) : Int), (0 : Int), PUnit.unit), x.1, x.2.1, ((0 : Int), [], ((0 : Int), []), []), (x.1.1, x.1.2.1, (wtakeF x.1.2.2.1 x.2.2).1, x.1.2.2.2), [], PUnit.unit) + (1 : Nat)) (([], (0 : Int), (wtakeF x.1.2.2.1 x.2.2).2.2, (wtakeF x.1.2.2.1 x.2.2).2.1, (↑(List.length (wtakeF x.1.2.2.1 x.2.2).2.1) : Int), (0 : Int), PUnit.unit), x.1, x.2.1, ((0 : Int), [], ((0 : Int), []), []), (x.1.1, x.1.2.1, (wtakeF x.1.2.2.1 x.2.2).1, x.1.2.2.2), [], PUnit.unit)).2.2.2.2.2.1.2.2.1.1 (seqsF (runF hrStp (hrMu (([], (0 : Int), (wtakeF x.1.2.2.1 x.2.2).2.2, (wtakeF x.1.2.2.1 x.2.2).2.1, (↑(List.length (wtakeF x.1.2.2.1 x.2.2).2.1) : Int), (0 : Int), PUnit.unit), x.1, x.2.1, ((0 : Int), [], ((0 : Int), []), []), (x.1.1, x.1.2.1, (wtakeF x.1.2.2.1 x.2.2).1, x.1.2.2.2), [], PUnit.unit) + (1 : Nat)) (([], (0 : Int), (wtakeF x.1.2.2.1 x.2.2).2.2, (wtakeF x.1.2.2.1 x.2.2).2.1, (↑(List.length (wtakeF x.1.2.2.1 x.2.2).2.1) : Int), (0 : Int), PUnit.unit), x.1, x.2.1, ((0 : Int), [], ((0 : Int), []), []), (x.1.1, x.1.2.1, (wtakeF x.1.2.2.1 x.2.2).1, x.1.2.2.2), [], PUnit.unit)).2.2.2.2.2.1.2.2.1)).1, (bitsA (runF hrStp (hrMu (([], (0 : Int), (wtakeF x.1.2.2.1 x.2.2).2.2, (wtakeF x.1.2.2.1 x.2.2).2.1, (↑(List.length (wtakeF x.1.2.2.1 x.2.2).2.1) : Int), (0 : Int), PUnit.unit), x.1, x.2.1, ((0 : Int), [], ((0 : Int), []), []), (x.1.1, x.1.2.1, (wtakeF x.1.2.2.1 x.2.2).1, x.1.2.2.2), [], PUnit.unit) + (1 : Nat)) (([], (0 : Int), (wtakeF x.1.2.2.1 x.2.2).2.2, (wtakeF x.1.2.2.1 x.2.2).2.1, (↑(List.length (wtakeF x.1.2.2.1 x.2.2).2.1) : Int), (0 : Int), PUnit.unit), x.1, x.2.1, ((0 : Int), [], ((0 : Int), []), []), (x.1.1, x.1.2.1, (wtakeF x.1.2.2.1 x.2.2).1, x.1.2.2.2), [], PUnit.unit)).2.2.2.2.2.1.2.2.1.1 (seqsF (runF hrStp (hrMu (([], (0 : Int), (wtakeF x.1.2.2.1 x.2.2).2.2, (wtakeF x.1.2.2.1 x.2.2).2.1, (↑(List.length (wtakeF x.1.2.2.1 x.2.2).2.1) : Int), (0 : Int), PUnit.unit), x.1, x.2.1, ((0 : Int), [], ((0 : Int), []), []), (x.1.1, x.1.2.1, (wtakeF x.1.2.2.1 x.2.2).1, x.1.2.2.2), [], PUnit.unit) + (1 : Nat)) (([], (0 : Int), (wtakeF x.1.2.2.1 x.2.2).2.2, (wtakeF x.1.2.2.1 x.2.2).2.1, (↑(List.length (wtakeF x.1.2.2.1 x.2.2).2.1) : Int), (0 : Int), PUnit.unit), x.1, x.2.1, ((0 : Int), [], ((0 : Int), []), []), (x.1.1, x.1.2.1, (wtakeF x.1.2.2.1 x.2.2).1, x.1.2.2.2), [], PUnit.unit)).2.2.2.2.2.1.2.2.1)).2)).2).1, (runF hrStp (hrMu (([], (0 : Int), (wtakeF x.1.2.2.1 x.2.2).2.2, (wtakeF x.1.2.2.1 x.2.2).2.1, (↑(List.length (wtakeF x.1.2.2.1 x.2.2).2.1) : Int), (0 : Int), PUnit.unit), x.1, x.2.1, ((0 : Int), [], ((0 : Int), []), []), (x.1.1, x.1.2.1, (wtakeF x.1.2.2.1 x.2.2).1, x.1.2.2.2), [], PUnit.unit) + (1 : Nat)) (([], (0 : Int), (wtakeF x.1.2.2.1 x.2.2).2.2, (wtakeF x.1.2.2.1 x.2.2).2.1, (↑(List.length (wtakeF x.1.2.2.1 x.2.2).2.1) : Int), (0 : Int), PUnit.unit), x.1, x.2.1, ((0 : Int), [], ((0 : Int), []), []), (x.1.1, x.1.2.1, (wtakeF x.1.2.2.1 x.2.2).1, x.1.2.2.2), [], PUnit.unit)).2.2.2.2.2.2.1, (runF hrStp (hrMu (([], (0 : Int), (wtakeF x.1.2.2.1 x.2.2).2.2, (wtakeF x.1.2.2.1 x.2.2).2.1, (↑(List.length (wtakeF x.1.2.2.1 x.2.2).2.1) : Int), (0 : Int), PUnit.unit), x.1, x.2.1, ((0 : Int), [], ((0 : Int), []), []), (x.1.1, x.1.2.1, (wtakeF x.1.2.2.1 x.2.2).1, x.1.2.2.2), [], PUnit.unit) + (1 : Nat)) (([], (0 : Int), (wtakeF x.1.2.2.1 x.2.2).2.2, (wtakeF x.1.2.2.1 x.2.2).2.1, (↑(List.length (wtakeF x.1.2.2.1 x.2.2).2.1) : Int), (0 : Int), PUnit.unit), x.1, x.2.1, ((0 : Int), [], ((0 : Int), []), []), (x.1.1, x.1.2.1, (wtakeF x.1.2.2.1 x.2.2).1, x.1.2.2.2), [], PUnit.unit)).2.1.2.2.1)))))))) := by kernel_rfl
theorem hrStp_ends (x : HrS) : (hrStp x).1 = .normal ∨ (hrStp x).1 = .exit 0 ∨ (hrStp x).1 = .ret := by
  unfold hrStp
  cases decide (x.1.2.2.2.2.2.1 < x.1.2.2.2.2.1) <;> cases (hrG x).2.2.2 != (0 : Int) <;> simp
theorem hr_go {x : HrS} (hp : hrPre x) (hn : (hrStp x).1 = .normal) : hrPre (hrStp x).2 ∧ hrMu (hrStp x).2 < hrMu x := by
  obtain ⟨h1, h2, h3, h4, h5⟩ := hp
  unfold hrStp at hn ⊢
  cases hlt : decide (x.1.2.2.2.2.2.1 < x.1.2.2.2.2.1) with
  | false => rw [hlt] at hn; cases hn
  | true =>
    have hlt' := of_decide_eq_true hlt
    cases he : (hrG x).2.2.2 != (0 : Int) with
    | true => rw [hlt, he] at hn; cases hn
    | false =>
      simp only [cond_true, cond_false]
      have hl : ((bif (hrG x).2.2.1 then x.2.2.2.2.2.1 ++ [(hrG x).2.1] else x.2.2.2.2.2.1).length : Int) ≤ x.1.2.2.2.2.2.1 + 1 := by
        cases (hrG x).2.2.1 with
        | true => rw [cond_true, List.length_append, List.length_singleton]; omega
        | false => rw [cond_false]; omega
      exact ⟨⟨by show 0 ≤ x.1.2.2.2.2.2.1 + 1; omega, by show x.1.2.2.2.2.2.1 + 1 ≤ x.1.2.2.2.2.1; omega, h3, h4, hl⟩, by show (x.1.2.2.2.2.1 - (x.1.2.2.2.2.2.1 + 1)).toNat < (x.1.2.2.2.2.1 - x.1.2.2.2.2.2.1).toNat; omega⟩
theorem hr_loop : LoopOK (mkC tys hearG [(0, hrD.spec)]) hrD.spec (loopB 0 (bodyOf (fnOf Try.prog 64))) :=
  loopF2_ok (id := 0) (D := hrD) (fun x => congrFun hr_round x) hrStp hrMu (fun _ => rfl) hrStp_ends fun (x : HrS) hp => by
    refine ⟨?_, fun hn => hr_go hp hn⟩
    obtain ⟨h1, h2, h3, h4, h5⟩ := hp
    have hz : ((0 : Int), (((0 : Int), (0 : Int)), (0 : Int), (0 : Int)), (0 : Int), false, ([] : List DItem)) = part0 := rfl
    simp only [Tree.holds, hz]
    unfold hrStp hrG
    refine ⟨fun h => ?_, fun h => by rw [h]; rfl⟩
    have hlt := of_decide_eq_true h
    refine ⟨⟨h1, by omega⟩, fun g => by rw [h, g]; rfl, fun g => ⟨fun _ => by omega, ?_⟩⟩
    rw [h, g, i64_id (n := x.1.2.2.2.2.2.1 + 1) (by omega) (by omega)]
    rfl
theorem hr_run : ∀ (n : Nat) (x : HrS), hrPre x → hrMu x < n →
    ((runF hrStp n x).1 = .ret ∧ (gatherGo x.2.2.2.2.1.2.2.2 x.2.2.2.2.2.1 (x.1.2.2.2.1.drop x.1.2.2.2.2.2.1.toNat)).2.2 ≠ 0 ∧ (runF hrStp n x).2.1.1 = [] ∧ (runF hrStp n x).2.1.2.1 = (gatherGo x.2.2.2.2.1.2.2.2 x.2.2.2.2.2.1 (x.1.2.2.2.1.drop x.1.2.2.2.2.2.1.toNat)).2.2 ∧ (runF hrStp n x).2.2.2.2.1 = x.2.1) ∨
    ((gatherGo x.2.2.2.2.1.2.2.2 x.2.2.2.2.2.1 (x.1.2.2.2.1.drop x.1.2.2.2.2.2.1.toNat)).2.2 = 0 ∧ runF hrStp n x = (.exit 0, ((x.1.1, x.1.2.1, x.1.2.2.1, x.1.2.2.2.1, x.1.2.2.2.2.1, x.1.2.2.2.2.1, ()), (x.2.1, x.2.2.1, x.2.2.2.1, (x.2.2.2.2.1.1, x.2.2.2.2.1.2.1, x.2.2.2.2.1.2.2.1, (gatherGo x.2.2.2.2.1.2.2.2 x.2.2.2.2.2.1 (x.1.2.2.2.1.drop x.1.2.2.2.2.2.1.toNat)).1), (gatherGo x.2.2.2.2.1.2.2.2 x.2.2.2.2.2.1 (x.1.2.2.2.1.drop x.1.2.2.2.2.2.1.toNat)).2.1, ()))))
  | 0, _, _, h => by omega
  | n + 1, x, hp, hn => by
    obtain ⟨h1, h2, h3, h4, h5⟩ := id hp
    cases hlt : decide (x.1.2.2.2.2.2.1 < x.1.2.2.2.2.1) with
    | false =>
      have hlt' := of_decide_eq_false hlt
      have e : hrStp x = (.exit 0, x) := by unfold hrStp; rw [hlt]; rfl
      have hd : x.1.2.2.2.1.drop x.1.2.2.2.2.2.1.toNat = [] := List.drop_eq_nil_of_le (by omega)
      rw [runF_end (by rw [e]; simp), e, hd]
      refine .inr ⟨rfl, ?_⟩
      have hi : x.1.2.2.2.2.1 = x.1.2.2.2.2.2.1 := by omega
      clear h1 h2 h3 h4 h5 hp hn hlt hlt' e hd
      obtain ⟨⟨a1, a2, a3, a4, len, i, ⟨⟩⟩, b3, b4, b6, b13, ms, ⟨⟩⟩ := x
      simp only at hi
      subst hi
      rfl
    | true =>
      have hlt' := of_decide_eq_true hlt
      have hd := drop_elt (l := x.1.2.2.2.1) part0 h1 (by omega)
      cases he : (hrG x).2.2.2 != (0 : Int) with
      | true =>
        have e : hrStp x = (.ret, (([], (hrG x).2.2.2, x.1.2.2), (x.2.1, x.2.2.1, x.2.1, x.2.2.2.2))) := by unfold hrStp; rw [hlt, he]; rfl
        rw [runF_end (by rw [e]; simp), e, hd, gatherGo]
        have he' : (gatherF x.2.2.2.2.1.2.2.2 (x.1.2.2.2.1.getD x.1.2.2.2.2.2.1.toNat part0)).2.2.2 != (0 : Int) := he
        rw [he']
        exact .inl ⟨rfl, by simpa using he', rfl, rfl, rfl⟩
      | false =>
        have e : hrStp x = (.normal, ((x.1.1, x.1.2.1, x.1.2.2.1, x.1.2.2.2.1, x.1.2.2.2.2.1, x.1.2.2.2.2.2.1 + 1, ()), (x.2.1, x.2.2.1, x.2.2.2.1, (x.2.2.2.2.1.1, x.2.2.2.2.1.2.1, x.2.2.2.2.1.2.2.1, (hrG x).1), (bif (hrG x).2.2.1 then x.2.2.2.2.2.1 ++ [(hrG x).2.1] else x.2.2.2.2.2.1), ()))) := by unfold hrStp; rw [hlt, he]; rfl
        obtain ⟨g1, g2⟩ := hr_go hp (by rw [e])
        have ih := hr_run n _ g1 (by omega)
        rw [e] at ih
        have he' : ((gatherF x.2.2.2.2.1.2.2.2 (x.1.2.2.2.1.getD x.1.2.2.2.2.2.1.toNat part0)).2.2.2 != (0 : Int)) = false := he
        rw [runF_go e, hd, gatherGo, he', cond_false]
        exact ih
theorem put_len (l : List DPart) (p : DPart) : (putF l p).length = l.length + 1 := by
  have e : (l.takeWhile (ptB p)).length + (l.dropWhile (ptB p)).length = l.length := by
    rw [← List.length_append, List.takeWhile_append_dropWhile]
  unfold putF
  rw [List.length_append, List.length_cons]
  have : (l.takeWhile (ptB p)).length + ((l.dropWhile (ptB p)).length + 1) = l.length + 1 := by omega
  exact this
theorem turn_len : ∀ (l : List DPart) (n : Int), (turnF n l).2.1.length ≤ l.length ∧ (turnF n l).2.2.length ≤ l.length
  | [], n => by simp [turnF]
  | x :: l, n => by
    rw [turnF]
    cases x.2.2.1 != n with
    | true => simp
    | false =>
      have := turn_len l (n + 1)
      simp only [cond_false, List.length_cons]
      omega
theorem wtake_len (w : DWin) (p : DPart) : (wtakeF w p).2.1.length ≤ w.2.length + 1 ∧ (wtakeF w p).1.2.length ≤ w.2.length + 1 := by
  unfold wtakeF
  have h1 := turn_len (putF w.2 p) w.1
  rw [put_len] at h1
  cases (bif !pokF p then true else !nearF w.1) with
  | true => simp
  | false =>
    cases decide (p.2.2.1 < w.1) with
    | true => simp
    | false =>
      cases !nearS p.2.2.1 w.1 with
      | true => simp
      | false =>
        cases (seqsF w).any (fun n => n == p.2.2.1) with
        | true => simp
        | false => simpa using h1
theorem hear_ok : CtrOK Try.prog 64 hearC :=
  fun_ok (G := hearG) (Λ := [(0, hrD.spec)]) tysOK hearG_ok mixed (by kernel_rfl) (by kernel_rfl) (by kernel_rfl) (by kernel_rfl) (lp_cons hr_loop lp_nil) fun (x : DMrl × DHello × DPart) hw hp => by
    have hpre : takePre (x.1.2.2.1, x.2.2) := hp (fun (x : DMrl × DHello × DPart) => takePre (x.1.2.2.1, x.2.2)) rfl
    rw [congrFun hear_tree x]
    have e : hearC.fn x = hearF x.1 x.2.1 x.2.2 := rfl
    rw [e]
    have hlen := wtake_len x.1.2.2.1 x.2.2
    have hl0 : x.1.2.2.1.2.length ≤ 1000 := hpre.1
    unfold hearF
    generalize wtakeF x.1.2.2.1 x.2.2 = T at hlen ⊢
    simp only [Tree.holds]
    refine ⟨hpre, fun h => by rw [h]; rfl, fun h => ?_⟩
    have hP : hrPre (([], (0 : Int), T.2.2, T.2.1, (T.2.1.length : Int), (0 : Int), PUnit.unit), x.1, x.2.1, ((0 : Int), [], ((0 : Int), []), []), (x.1.1, x.1.2.1, T.1, x.1.2.2.2), [], PUnit.unit) :=
      ⟨Int.le_refl _, by show (0 : Int) ≤ (T.2.1.length : Int); omega, rfl, by show (T.2.1.length : Int) ≤ 100000; omega, Int.le_refl _⟩
    have key := hr_run _ _ hP (Nat.lt_succ_self _)
    refine ⟨hP, ?_⟩
    rw [h, cond_false]
    have hd : T.2.1.drop (0 : Int).toNat = T.2.1 := rfl
    simp only [hd] at key
    generalize runF hrStp _ _ = W at key ⊢
    rcases key with ⟨k1, k2, k3, k4, k5⟩ | ⟨k1, k2⟩
    · rw [k1, k3, k4, k5]
      refine ⟨fun _ => ?_, fun g => by cases g⟩
      have : ((gatherGo x.1.2.2.2 [] T.2.1).2.2 != (0 : Int)) = true := by simpa using k2
      rw [this]; rfl
    · subst k2
      refine ⟨fun g => (by cases g), fun _ => ⟨by show T.1.2.length ≤ 100000; omega, ?_⟩⟩
      have : ((gatherGo x.1.2.2.2 [] T.2.1).2.2 != (0 : Int)) = false := by rw [k1]; rfl
      rw [this, cond_false]
      unfold fackF
      exact ⟨fun g => by rw [g]; rfl, fun g => by rw [g]; rfl⟩
end Go.Ev.P
/- Lists that are the same. -/
set_option linter.unusedVariables false
set_option linter.unusedSimpArgs false
namespace Go.Ev.P
open Go.Proofs
def itemsP (x : List DItem × List DItem) : Prop := x.1 = x.2
def itemsC : Ctr := { args := [.sl gItem, .sl gItem], res := [.bool], pre := some itemsP, fn := fun (_ : List DItem × List DItem) => true }
abbrev itemsS := (List DItem × List DItem × Bool × Int × Int × Unit) × Unit
def itemsD : LoopD where
  prom := []
  ts := [(0, .val (.sl gItem)), (1, .val (.sl gItem)), (4, .val .bool), (12, .val (.int .i64)), (13, .val (.int .i64))]
  bs := []
  pre := fun (x : itemsS) => x.1.1 = x.1.2.1 ∧ 0 ≤ x.1.2.2.2.2.1 ∧ x.1.2.2.2.2.1 ≤ x.1.2.2.2.1 ∧ x.1.2.2.2.1 = x.1.1.length ∧ x.1.2.2.2.1 ≤ 140737488355328
  out := fun (x : itemsS) => .leaf (.exit 0, ((x.1.1, x.1.2.1, x.1.2.2.1, x.1.2.2.2.1, x.1.2.2.2.1, ()), ()))
theorem items_round : (fun x : itemsS => roundOf (mkC tys [] [(0, itemsD.spec)]) itemsD (loopB 0 (bodyOf (fnOf Try.prog 68))) x) = (fun x => Tree.br (decide (x.1.2.2.2.2.1 < x.1.2.2.2.1)) (Tree.need ((0 : Int) ≤ x.1.2.2.2.2.1 ∧ x.1.2.2.2.2.1 < (↑(List.length x.1.1) : Int)) (Tree.need ((0 : Int) ≤ x.1.2.2.2.2.1 ∧ x.1.2.2.2.2.1 < (↑(List.length x.1.2.1) : Int)) (Tree.br (!geq (GTy.prod (GTy.int IntKind.i64) (GTy.prod (GTy.int IntKind.i64) (GTy.prod (GTy.int IntKind.u32) (GTy.int IntKind.i64)))) (List.getD x.1.1 (Int.toNat x.1.2.2.2.2.1) ((0 : Int), (0 : Int), (0 : Int), (0 : Int))) (List.getD x.1.2.1 (Int.toNat x.1.2.2.2.2.1) ((0 : Int), (0 : Int), (0 : Int), (0 : Int)))) (Tree.leaf (Ex.ret, some ((x.1.1, x.1.2.1, false, x.1.2.2.2.1, x.1.2.2.2.2.1, ()), ()))) (Tree.leaf (Ex.normal, some ((x.1.1, x.1.2.1, x.1.2.2.1, x.1.2.2.2.1, IntKind.wrap IntKind.i64 (x.1.2.2.2.2.1 + (1 : Int)), ()), ())))))) (Tree.leaf (Ex.exit (0 : Nat), some ((x.1.1, x.1.2.1, x.1.2.2.1, x.1.2.2.2.1, x.1.2.2.2.2.1, ()), ())))) := by kernel_rfl
theorem items_loop : LoopOK (mkC tys [] [(0, itemsD.spec)]) itemsD.spec (loopB 0 (bodyOf (fnOf Try.prog 68))) :=
  loopD_ok1 (fun _ => rfl) (fun x => congrFun items_round x) (fun (x : itemsS) => (x.1.2.2.2.1 - x.1.2.2.2.2.1).toNat) fun (x : itemsS) hp => by
    obtain ⟨⟨l, l2, b, n, i, ⟨⟩⟩, ⟨⟩⟩ := x
    obtain ⟨h0, h1, h2, h3, h4⟩ := hp
    simp only at h0 h1 h2 h3 h4
    subst h0
    simp only [Tree.holds]
    refine ⟨fun h => ?_, fun h => ?_⟩
    · have h' : i < n := by simpa using h
      have e : IntKind.i64.wrap (i + 1) = i + 1 := i64_id (by omega) (by omega)
      refine ⟨⟨h1, by omega⟩, ⟨h1, by omega⟩, fun hc => ?_, fun _ => ⟨_, rfl, ⟨rfl, ?_, ?_, h3, h4⟩, ?_, rfl⟩⟩
      · first | (rw [geqKept] at hc; cases hc) | (simp [geq, veq] at hc)
      · show 0 ≤ IntKind.i64.wrap (i + 1); omega
      · show IntKind.i64.wrap (i + 1) ≤ n; omega
      · show (n - IntKind.i64.wrap (i + 1)).toNat < (n - i).toNat; omega
    · have h' : ¬ i < n := by simpa using h
      have hi : i = n := by omega
      subst hi
      exact ⟨_, rfl, rfl⟩
theorem items_tree : (fun x : List DItem × List DItem => evFn (mkC tys [] [(0, itemsD.spec)]) (fnOf Try.prog 68) (resL itemsC.args x) itemsC.res) = (fun x => Tree.br ((↑(List.length x.1) : Int) != (↑(List.length x.2) : Int)) (Tree.leaf false) (Tree.need (x.1 = x.2 ∧ (0 : Int) ≤ (0 : Int) ∧ (0 : Int) ≤ (↑(List.length x.1) : Int) ∧ (↑(List.length x.1) : Int) = (↑(List.length x.1) : Int) ∧ (↑(List.length x.1) : Int) ≤ (140737488355328 : Int)) (Tree.leaf true))) := by kernel_rfl
theorem items_ok : CtrOK Try.prog 68 itemsC :=
  fun_ok (G := []) (Λ := [(0, itemsD.spec)]) tysOK ctrs_nil mixed (by kernel_rfl) (by kernel_rfl) (by kernel_rfl) (by kernel_rfl) (lp_cons items_loop lp_nil) fun (x : List DItem × List DItem) hw hpre => by
    rw [congrFun items_tree x]
    have he : x.1 = x.2 := hpre itemsP rfl
    obtain ⟨a, b⟩ := x
    simp only at he
    subst he
    have ha : wt (.sl gItem) a := hw.1
    have hl : a.length ≤ 140737488355328 := ha.1
    simp only [Tree.holds]
    exact ⟨fun h => by simp at h, fun _ => ⟨⟨trivial, by omega, by omega, trivial, by omega⟩, rfl⟩⟩
def iequalP (x : List DItem × List DItem) : Prop := x.1 = x.2
def iequalC : Ctr := { args := [.sl gItem, .sl gItem], res := [.bool], pre := some iequalP, fn := fun (_ : List DItem × List DItem) => true }
abbrev iequalS := (List DItem × List DItem × Bool × Int × Int × Unit) × Unit
def iequalD : LoopD where
  prom := []
  ts := [(0, .val (.sl gItem)), (1, .val (.sl gItem)), (4, .val .bool), (12, .val (.int .i64)), (13, .val (.int .i64))]
  bs := []
  pre := fun (x : iequalS) => x.1.1 = x.1.2.1 ∧ 0 ≤ x.1.2.2.2.2.1 ∧ x.1.2.2.2.2.1 ≤ x.1.2.2.2.1 ∧ x.1.2.2.2.1 = x.1.1.length ∧ x.1.2.2.2.1 ≤ 140737488355328
  out := fun (x : iequalS) => .leaf (.exit 0, ((x.1.1, x.1.2.1, x.1.2.2.1, x.1.2.2.2.1, x.1.2.2.2.1, ()), ()))
theorem iequal_round : (fun x : iequalS => roundOf (mkC tys [] [(0, iequalD.spec)]) iequalD (loopB 0 (bodyOf (fnOf Try.prog 151))) x) = (fun x => Tree.br (decide (x.1.2.2.2.2.1 < x.1.2.2.2.1)) (Tree.need ((0 : Int) ≤ x.1.2.2.2.2.1 ∧ x.1.2.2.2.2.1 < (↑(List.length x.1.1) : Int)) (Tree.need ((0 : Int) ≤ x.1.2.2.2.2.1 ∧ x.1.2.2.2.2.1 < (↑(List.length x.1.2.1) : Int)) (Tree.br (!geq (GTy.prod (GTy.int IntKind.i64) (GTy.prod (GTy.int IntKind.i64) (GTy.prod (GTy.int IntKind.u32) (GTy.int IntKind.i64)))) (List.getD x.1.1 (Int.toNat x.1.2.2.2.2.1) ((0 : Int), (0 : Int), (0 : Int), (0 : Int))) (List.getD x.1.2.1 (Int.toNat x.1.2.2.2.2.1) ((0 : Int), (0 : Int), (0 : Int), (0 : Int)))) (Tree.leaf (Ex.ret, some ((x.1.1, x.1.2.1, false, x.1.2.2.2.1, x.1.2.2.2.2.1, ()), ()))) (Tree.leaf (Ex.normal, some ((x.1.1, x.1.2.1, x.1.2.2.1, x.1.2.2.2.1, IntKind.wrap IntKind.i64 (x.1.2.2.2.2.1 + (1 : Int)), ()), ())))))) (Tree.leaf (Ex.exit (0 : Nat), some ((x.1.1, x.1.2.1, x.1.2.2.1, x.1.2.2.2.1, x.1.2.2.2.2.1, ()), ())))) := by kernel_rfl
theorem iequal_loop : LoopOK (mkC tys [] [(0, iequalD.spec)]) iequalD.spec (loopB 0 (bodyOf (fnOf Try.prog 151))) :=
  loopD_ok1 (fun _ => rfl) (fun x => congrFun iequal_round x) (fun (x : iequalS) => (x.1.2.2.2.1 - x.1.2.2.2.2.1).toNat) fun (x : iequalS) hp => by
    obtain ⟨⟨l, l2, b, n, i, ⟨⟩⟩, ⟨⟩⟩ := x
    obtain ⟨h0, h1, h2, h3, h4⟩ := hp
    simp only at h0 h1 h2 h3 h4
    subst h0
    simp only [Tree.holds]
    refine ⟨fun h => ?_, fun h => ?_⟩
    · have h' : i < n := by simpa using h
      have e : IntKind.i64.wrap (i + 1) = i + 1 := i64_id (by omega) (by omega)
      refine ⟨⟨h1, by omega⟩, ⟨h1, by omega⟩, fun hc => ?_, fun _ => ⟨_, rfl, ⟨rfl, ?_, ?_, h3, h4⟩, ?_, rfl⟩⟩
      · first | (rw [geqKept] at hc; cases hc) | (simp [geq, veq] at hc)
      · show 0 ≤ IntKind.i64.wrap (i + 1); omega
      · show IntKind.i64.wrap (i + 1) ≤ n; omega
      · show (n - IntKind.i64.wrap (i + 1)).toNat < (n - i).toNat; omega
    · have h' : ¬ i < n := by simpa using h
      have hi : i = n := by omega
      subst hi
      exact ⟨_, rfl, rfl⟩
theorem iequal_tree : (fun x : List DItem × List DItem => evFn (mkC tys [] [(0, iequalD.spec)]) (fnOf Try.prog 151) (resL iequalC.args x) iequalC.res) = (fun x => Tree.br ((↑(List.length x.1) : Int) != (↑(List.length x.2) : Int)) (Tree.leaf false) (Tree.need (x.1 = x.2 ∧ (0 : Int) ≤ (0 : Int) ∧ (0 : Int) ≤ (↑(List.length x.1) : Int) ∧ (↑(List.length x.1) : Int) = (↑(List.length x.1) : Int) ∧ (↑(List.length x.1) : Int) ≤ (140737488355328 : Int)) (Tree.leaf true))) := by kernel_rfl
theorem iequal_ok : CtrOK Try.prog 151 iequalC :=
  fun_ok (G := []) (Λ := [(0, iequalD.spec)]) tysOK ctrs_nil mixed (by kernel_rfl) (by kernel_rfl) (by kernel_rfl) (by kernel_rfl) (lp_cons iequal_loop lp_nil) fun (x : List DItem × List DItem) hw hpre => by
    rw [congrFun iequal_tree x]
    have he : x.1 = x.2 := hpre iequalP rfl
    obtain ⟨a, b⟩ := x
    simp only at he
    subst he
    have ha : wt (.sl gItem) a := hw.1
    have hl : a.length ≤ 140737488355328 := ha.1
    simp only [Tree.holds]
    exact ⟨fun h => by simp at h, fun _ => ⟨⟨trivial, by omega, by omega, trivial, by omega⟩, rfl⟩⟩
end Go.Ev.P
/- Sessions that are the same. -/
set_option linter.unusedVariables false
set_option linter.unusedSimpArgs false
namespace Go.Ev.P
open Go.Proofs Go.Conc
def efD : LoopD where
  prom := []
  ts := [(16, .val (.int .i64)), (17, .val (.int .i64))]
  bs := []
  pre := fun (x : (Int × Int × Unit) × Unit) => x.1.1 = x.1.2.1
  out := fun (x : (Int × Int × Unit) × Unit) => .leaf (.exit 0, x)
theorem ef_round : (fun x : (Int × Int × Unit) × Unit => roundOf (mkC tys [] [(0, efD.spec)]) efD (loopB 0 (bodyOf (fnOf Try.prog 176))) x) = (fun x => Tree.br (decide (x.1.2.1 < x.1.1)) Tree.stuck (Tree.leaf (Ex.exit (0 : Nat), some ((x.1.1, x.1.2.1, ()), ())))) := by kernel_rfl
theorem ef_tree : (fun x : List DPart × List DPart => evFn (mkC tys [] [(0, efD.spec)]) (fnOf Try.prog 176) (resL [.sl gPart, .sl gPart] x) [.bool]) = (fun x => Tree.br ((↑(List.length x.1) : Int) != (↑(List.length x.2) : Int)) (Tree.leaf false) (Tree.need ((↑(List.length x.1) : Int) = (0 : Int)) (Tree.leaf true))) := by kernel_rfl
theorem ef_loop : LoopOK (mkC tys [] [(0, efD.spec)]) efD.spec (loopB 0 (bodyOf (fnOf Try.prog 176))) :=
  loopD_ok1 (fun _ => rfl) (fun x => congrFun ef_round x) (fun (x : (Int × Int × Unit) × Unit) => 0) fun (x : (Int × Int × Unit) × Unit) hp => by
    have hp : x.1.1 = x.1.2.1 := hp
    simp only [Tree.holds]
    exact ⟨fun h => by have := of_decide_eq_true h; omega, fun _ => ⟨_, rfl, rfl⟩⟩
theorem ef_nd : nodupN ((loopsOf (bodyOf (fnOf Try.prog 176))).map (·.1)) = true := by kernel_rfl
theorem ef_f : Try.prog.funcs[176]? = some (fnOf Try.prog 176) := fnOf_eq (by kernel_rfl)
theorem ef_b : (fnOf Try.prog 176).body.isSome = true := by kernel_rfl
theorem ef_bn : (fnOf Try.prog 176).body.isNone = false := by kernel_rfl
theorem ef_name : ((fnOf Try.prog 176).name == "runtime.NumGoroutine") = false := by kernel_rfl
section
attribute [local irreducible] fnOf bodyOf
theorem ef_lam : LamOK (mkC tys [] [(0, efD.spec)]) (bodyOf (fnOf Try.prog 176)) := lam_of _ fun id body hm L hL => by
  have hk := lk_mem ef_nd hm
  have := lk_all (Q := fun id L => LoopOK (mkC tys [] [(0, efD.spec)]) L (loopB id (bodyOf (fnOf Try.prog 176)))) (lp_cons ef_loop lp_nil) hL
  unfold loopB at this
  rw [hk] at this
  exact this
theorem ef_calls {w : World} {S : Stab} {us : List Value} {u0 : Value} (hS : ∀ b o, S b o → b < w.heap.size) (hT : Tab S w) (henc : EncD w S [.sl gPart, .sl gPart] (([], []) : List DPart × List DPart) us) :
    Calls Try.prog 176 (us.toArray ++ #[u0]) w (fun e w' => ∃ v, e = .returned v ∧ Grows w w' ∧ ∃ N : Stab, (∀ b o, N b o → w.heap.size ≤ b ∧ b < w'.heap.size) ∧ RelRes w' (fun b o => S b o ∨ N b o) [.bool] true v) := by
  refine calls_more (C := mkC tys [] [(0, efD.spec)]) (args := [.sl gPart, .sl gPart]) (res := [.bool]) (y := true) (x := (([], []) : List DPart × List DPart)) tysOK ctrs_nil (dsOK_nil rfl) mixed ef_f (bodyOf_eq ef_b) ef_lam ?_ hS hT henc
  have k2 : evFn (mkC tys [] [(0, efD.spec)]) (fnOf Try.prog 176) (resL [.sl gPart, .sl gPart] (([], []) : List DPart × List DPart)) [.bool] = _ := congrFun ef_tree (([], []) : List DPart × List DPart)
  rw [k2]
  exact ⟨(fun h => by cases h), (fun _ => ⟨rfl, rfl⟩)⟩
end
noncomputable def wsB (i : Nat) : Code := rNth (bodyOf (fnOf Try.prog 150)) i
noncomputable abbrev wsO (i : Nat) : Oper := rOp (wsB 1) i
def wsP (x : DWin × DWin) : Prop := x.1.2 = [] ∧ x.2.2 = [] ∧ x.1.1 = x.2.1
def wsame19C : Ctr := { args := [gWin, gWin], res := [.bool], pre := some wsP, fn := fun (_ : DWin × DWin) => true }
@[reducible] def wsT0 : List (Nat × Sh) := [(2, .ptr 2 gWin), (3, .ptr 3 gWin)]
@[reducible] def wsT1 : List (Nat × Sh) := [(2, .ptr 2 gWin), (3, .ptr 3 gWin), (10, .val .bool)]
@[reducible] def wsT2 : List (Nat × Sh) := [(10, .val .bool), (12, .val (.sl gPart)), (14, .val (.sl gPart))]
@[reducible] def wsT3 : List (Nat × Sh) := [(10, .val .bool), (15, .val .bool)]
@[reducible] def wsT4 : List (Nat × Sh) := [(4, .val .bool)]
@[reducible] def wsM : List (Nat × BSh) := [(2, .var gWin), (3, .var gWin)]
theorem ws0_tree : (fun x : DWin × DWin => pieceT (mkC tys [] []) (fnOf Try.prog 150) [.bool] wsT0 wsM [wsB 0] { tmps := number 0 (resL [gWin, gWin] x), boxes := [] }) = (fun x => Tree.leaf (none, some ((), x.1, x.2, ()))) := by kernel_rfl
theorem ws1_tree : (fun x : Unit × (DWin × DWin × Unit) => opsT (mkC tys [] []) wsT1 wsM [wsO 0, wsO 1, wsO 2, wsO 3, wsO 4, wsO 5] (mkS wsT0 wsM x)) = (fun x => Tree.leaf (some ((x.2.1.1 == x.2.2.1.1, ()), x.2.1, x.2.2.1, ()))) := by kernel_rfl
theorem ws11_tree : (fun x : (Bool × Bool × Unit) × Unit => opsT (mkC tys [] []) wsT4 [] [wsO 11, wsO 12] (mkS wsT3 [] x)) = (fun x => Tree.leaf (some ((bif x.1.1 then x.1.2.1 else false, ()), ()))) := by kernel_rfl
theorem ws2_tree : (fun x : (Bool × Unit) × Unit => pieceT (mkC tys [] []) (fnOf Try.prog 150) [.bool] [] [] [wsB 2] (mkS wsT4 [] x)) = (fun x => Tree.leaf (some x.1.1, none)) := by kernel_rfl
theorem ws_all : seqs (bodyOf (fnOf Try.prog 150)) = [wsB 0, wsB 1, wsB 2] := by kernel_rfl
theorem ws_1 : wsB 1 = .region 1 (rOps (wsB 1)) false := by kernel_rfl
theorem ws_n : (fnOf Try.prog 150).ntmps = 17 := by kernel_rfl
abbrev WsX := (Bool × Unit) × (DWin × DWin × Unit)
noncomputable def wsS (x : WsX) : Nat → St
  | 0 => mkS wsT1 wsM x
  | 1 => (mkS wsT1 wsM x).after (wsO 6) ⟨.ptr 2 gWin (fieldPath 2 1), [], none⟩
  | 2 => ((mkS wsT1 wsM x).after (wsO 6) ⟨.ptr 2 gWin (fieldPath 2 1), [], none⟩).after (wsO 7) ⟨.val (.sl gPart) x.2.1.2, [], none⟩
  | 3 => (((mkS wsT1 wsM x).after (wsO 6) ⟨.ptr 2 gWin (fieldPath 2 1), [], none⟩).after (wsO 7) ⟨.val (.sl gPart) x.2.1.2, [], none⟩).after (wsO 8) ⟨.ptr 3 gWin (fieldPath 2 1), [], none⟩
  | _ => ((((mkS wsT1 wsM x).after (wsO 6) ⟨.ptr 2 gWin (fieldPath 2 1), [], none⟩).after (wsO 7) ⟨.val (.sl gPart) x.2.1.2, [], none⟩).after (wsO 8) ⟨.ptr 3 gWin (fieldPath 2 1), [], none⟩).after (wsO 9) ⟨.val (.sl gPart) x.2.2.1.2, [], none⟩
theorem ws_e6 (x : WsX) : opEff tys (fun f => lk f []) ((wsO 6).dst.getD 0) (wsO 6) ((wsS x 0).args (wsO 6)) = some ⟨.ptr 2 gWin (fieldPath 2 1), [], none⟩ := by kernel_rfl
theorem ws_e7 (x : WsX) : opEff tys (fun f => lk f []) ((wsO 7).dst.getD 0) (wsO 7) ((wsS x 1).args (wsO 7)) = some ⟨.val (.sl gPart) x.2.1.2, [], none⟩ := by kernel_rfl
theorem ws_e8 (x : WsX) : opEff tys (fun f => lk f []) ((wsO 8).dst.getD 0) (wsO 8) ((wsS x 2).args (wsO 8)) = some ⟨.ptr 3 gWin (fieldPath 2 1), [], none⟩ := by kernel_rfl
theorem ws_e9 (x : WsX) : opEff tys (fun f => lk f []) ((wsO 9).dst.getD 0) (wsO 9) ((wsS x 3).args (wsO 9)) = some ⟨.val (.sl gPart) x.2.2.1.2, [], none⟩ := by kernel_rfl
theorem ws_l10 (x : WsX) : ∀ i, i ≤ 4 → (wsS x i).look 10 = .val .bool x.1.1
  | 0, _ | 1, _ | 2, _ | 3, _ | 4, _ => by kernel_rfl
  | i + 5, h => by omega
theorem ws_r (x : WsX) : restrict { prom := [], keep := wsT2.map (·.1), boxes := [], sum := fun _ => .stuck } (wsS x 4) = some (mkS wsT2 [] ((x.1.1, x.2.1.2, x.2.2.1.2, ()), ())) := by kernel_rfl
theorem ws_y : (((rOps (wsB 1))[5]?).bind (·.dst)) = some 10 := by kernel_rfl
theorem ws_g : ∀ i, 6 ≤ i → i ≤ 10 → (wsO i).guard = some (5, true)
  | 6, _, _ | 7, _, _ | 8, _, _ | 9, _, _ | 10, _, _ => by kernel_rfl
  | 0, h, _ | 1, h, _ | 2, h, _ | 3, h, _ | 4, h, _ | 5, h, _ => by omega
  | i + 11, _, h => by omega
theorem ws_wanted {a : Act} (h : a.eval (.tmp 10) = .bool true) {i : Nat} (h1 : 6 ≤ i) (h2 : i ≤ 10) : Region.wanted (wsO i) (yielded (rOps (wsB 1)) a.tmps) = true := by
  unfold Region.wanted
  rw [ws_g i h1 h2]
  have h' : a.tmps.getD 10 undef = .bool true := h
  have hg : a.tmps[10]? = some (.bool true) := by
    rw [Array.getD_eq_getD_getElem?] at h'
    cases hh : a.tmps[10]? with
    | none => rw [hh] at h'; cases h'
    | some v => rw [hh] at h'; exact congrArg some h'
  show (yielded (rOps (wsB 1)) a.tmps 5 == some true) = true
  unfold yielded
  rw [ws_y]
  simp [hg]
theorem map_three {α β : Type} (f : α → β) (a b c : α) : #[a, b, c].map f ++ #[] = #[f a, f b] ++ #[f c] := by simp
theorem ws_call : (wsO 10).op = .call { callee := .value (.func 176), args := #[.tmp 12, .tmp 14, .func 177], argTypes := #[26, 26, 213] } := by kernel_rfl
section
attribute [local irreducible] fnOf bodyOf
theorem wsame19_ok : CtrOK Try.prog 150 wsame19C :=
  ctr_of_to (C := mkC tys [] []) tysOK (by kernel_rfl) (by kernel_rfl) (by kernel_rfl) (fun x => by rw [ws_n]; show 2 ≤ 17; omega) fun R0 b (x : DWin × DWin) a0 hbk hw hpre h0 hsz0 hd0 => by
    rw [ws_n] at hsz0
    obtain ⟨⟨n1, l1⟩, ⟨n2, l2⟩⟩ := x
    obtain ⟨e1, e2, e3⟩ : wsP ((n1, l1), (n2, l2)) := hpre wsP rfl
    simp only at e1 e2 e3
    subst e1 e2 e3
    rw [ws_all]
    have k0 := Kd.start (W := fun _ => none) (n := 17) (sl := []) (D := []) h0 hsz0 hd0 (fun _ h => by cases h)
    show LTo Try.prog b ([wsB 0] ++ [wsB 1, wsB 2]) _ a0 R0.w0
    refine k0.piece (C := mkC tys [] []) tysOK ctrs_nil mixed (fn := fnOf Try.prog 150) (res := [.bool]) (ts := wsT0) (bs := wsM) (G := fun z => z = (none, some ((), ((n1, []), (n1, []), ())))) (by kernel_rfl) (by kernel_rfl) ?_ ?_ ?_ (fun h => by cases h)
    · have k8 : pieceT (mkC tys [] []) (fnOf Try.prog 150) [.bool] wsT0 wsM [wsB 0] { tmps := number 0 (resL [gWin, gWin] ((n1, []), (n1, []))), boxes := [] } = _ := congrFun ws0_tree ((n1, []), (n1, []))
      exact (congrArg (Tree.holds _) k8).mpr rfl
    · intro y s' a' w' hy; cases hy
    intro z a1 w1 hz k1
    have hz' := Option.some.inj (Prod.mk.inj hz).2
    subst hz'
    refine LTo.cons ?_
    rw [ws_1]
    refine CodeTo.region ?_
    rw [show List.range (rOps (wsB 1)).size = [0, 1, 2, 3, 4, 5] ++ (6 :: 7 :: 8 :: 9 :: 10 :: ([11, 12] ++ [])) by kernel_rfl]
    refine k1.opsL (C := mkC tys [] []) tysOK ctrs_nil (ts := wsT1) (bs := wsM) (G := fun z => z = some ((true, ()), ((n1, []), (n1, []), ()))) [0, 1, 2, 3, 4, 5] (by kernel_rfl) (by kernel_rfl) ?_ ?_ (fun h => by cases h)
    · have k8 : opsT (mkC tys [] []) wsT1 wsM [wsO 0, wsO 1, wsO 2, wsO 3, wsO 4, wsO 5] (mkS wsT0 wsM ((), ((n1, []), (n1, []), ()))) = _ := congrFun ws1_tree ((), ((n1, []), (n1, []), ()))
      refine (congrArg (Tree.holds _) k8).mpr ?_
      show some ((n1 == n1, ()), ((n1, []), (n1, []), ())) = _
      rw [beq_self_eq_true]
      rfl
    intro z a2 w2 hz k2
    have hz' := Option.some.inj hz
    subst hz'
    let x : WsX := ((true, ()), ((n1, []), (n1, []), ()))
    have k2 : Kd R0 (fun _ => False) (fun _ => none) 17 [] (wsS x 0) a2 w2 := k2
    have b0 := k2.old.bool (ws_l10 x 0 (by omega))
    refine Kd.opW (C := mkC tys [] []) tysOK ctrs_nil k2 (o := wsO 6) (by kernel_rfl) (ws_wanted b0 (by omega) (by omega)) (ws_e6 x) (fun p hp => by cases hp) (fun k hk => ?_) fun a3 w3 k3 => ?_
    · rw [show (wsO 6).dst = some 11 by kernel_rfl] at hk
      cases hk
      exact ⟨(show (11 : Nat) < 17 by decide), fun p hp => by cases hp⟩
    have b1 := k3.old.bool (ws_l10 x 1 (by omega))
    refine Kd.opW (C := mkC tys [] []) tysOK ctrs_nil (s := wsS x 1) k3 (o := wsO 7) (by kernel_rfl) (ws_wanted b1 (by omega) (by omega)) (ws_e7 x) (fun p hp => by cases hp) (fun k hk => ?_) fun a4 w4 k4 => ?_
    · rw [show (wsO 7).dst = some 12 by kernel_rfl] at hk
      cases hk
      exact ⟨(show (12 : Nat) < 17 by decide), fun p hp => by cases hp⟩
    have b2 := k4.old.bool (ws_l10 x 2 (by omega))
    refine Kd.opW (C := mkC tys [] []) tysOK ctrs_nil (s := wsS x 2) k4 (o := wsO 8) (by kernel_rfl) (ws_wanted b2 (by omega) (by omega)) (ws_e8 x) (fun p hp => by cases hp) (fun k hk => ?_) fun a5 w5 k5 => ?_
    · rw [show (wsO 8).dst = some 13 by kernel_rfl] at hk
      cases hk
      exact ⟨(show (13 : Nat) < 17 by decide), fun p hp => by cases hp⟩
    have b3 := k5.old.bool (ws_l10 x 3 (by omega))
    refine Kd.opW (C := mkC tys [] []) tysOK ctrs_nil (s := wsS x 3) k5 (o := wsO 9) (by kernel_rfl) (ws_wanted b3 (by omega) (by omega)) (ws_e9 x) (fun p hp => by cases hp) (fun k hk => ?_) fun a6 w6 k6 => ?_
    · rw [show (wsO 9).dst = some 14 by kernel_rfl] at hk
      cases hk
      exact ⟨(show (14 : Nat) < 17 by decide), fun p hp => by cases hp⟩
    have k6 : Kd R0 (fun _ => False) (fun _ => none) 17 [] (wsS x 4) a6 w6 := k6
    have b4 := k6.old.bool (ws_l10 x 4 (by omega))
    have k7 : Kd R0 (fun _ => False) (fun _ => none) 17 [] (mkS wsT2 [] ((true, [], [], ()), ())) a6 w6 := k6.restr (ws_r x)
    obtain ⟨M, rfl, hb, I, hr⟩ := k7.old
    have r12 := hr 12
    have r14 := hr 14
    rw [show (mkS wsT2 [] ((true, [], [], ()), ())).look 12 = .val (.sl gPart) [] by kernel_rfl] at r12
    rw [show (mkS wsT2 [] ((true, [], [], ()), ())).look 14 = .val (.sl gPart) [] by kernel_rfl] at r14
    simp only [RelV] at r12 r14
    obtain ⟨c12, h12, v12⟩ := r12
    obtain ⟨c14, h14, v14⟩ := r14
    have u12 : c12 = [a6.tmps.getD 12 undef] := by
      obtain ⟨ad, cap, q1, _⟩ := h12
      rw [q1] at v12 ⊢
      rw [v12]; rfl
    have u14 : c14 = [a6.tmps.getD 14 undef] := by
      obtain ⟨ad, cap, q1, _⟩ := h14
      rw [q1] at v14 ⊢
      rw [v14]; rfl
    rw [u12] at h12
    rw [u14] at h14
    have v12' : a6.tmps.getD 12 undef = toVal (.sl gPart) [a6.tmps.getD 12 undef] := by rw [u12] at v12; exact v12
    have v14' : a6.tmps.getD 14 undef = toVal (.sl gPart) [a6.tmps.getD 14 undef] := by rw [u14] at v14; exact v14
    have henc : EncD M.w M.S [.sl gPart, .sl gPart] (([], []) : List DPart × List DPart) [a6.tmps.getD 12 undef, a6.tmps.getD 14 undef] := ⟨_, _, h12, congrArg (fun v => v :: [a6.tmps.getD 14 undef]) v12', _, h14, congrArg (fun v => [v]) v14'⟩
    have hcalls := ef_calls (u0 := .func (.func 177) #[] #[]) (fun k o hs => (I.here k o hs).2) (R0.tab.keeps I.old) henc
    have hargs : (#[Operand.tmp 12, Operand.tmp 14, Operand.func 177] : Array Operand).map a6.eval ++ #[] = #[a6.tmps.getD 12 undef, a6.tmps.getD 14 undef] ++ #[.func (.func 177) #[] #[]] := map_three _ _ _ _
    have hx : a6.eval (.func 176) = .func (.func 176) #[] #[] := rfl
    have ho : (rOps (wsB 1))[10]? = some (wsO 10) := by kernel_rfl
    have hwant := ws_wanted b4 (i := 10) (by omega) (by omega)
    refine k7.callW (o := wsO 10) (caps := #[]) ho hwant ws_call hx hargs ef_f ef_bn ef_name hcalls ?_
    rintro e w' ⟨v, rfl, hg, N, hN, hres⟩
    refine ⟨v, fun _ => False, fun _ => none, rfl, fun k hk => hk.elim, fun k hk => hk.elim, fun k hk => hk.elim, hg.os, hg.tape, hg.output, hg.size, fun k hk _ => hg.block k hk, fun k8 => ?_⟩
    rw [show (wsO 10).dst = some 15 by kernel_rfl]
    have hv : v = .bool true := by
      obtain ⟨us, ⟨cs, q1, rfl⟩, q2⟩ := hres
      have : cs = [.bool true] := q1
      subst this
      exact q2
    subst hv
    have k9 := (k8.known (k := 15) (v := .bool true) (av := .val .bool true) (fun M => by simp only [RelV]; exact ⟨[.bool true], rfl, rfl⟩) (by omega) (by simp)).restr (L := { prom := [], keep := wsT3.map (·.1), boxes := [], sum := fun _ => .stuck }) (s' := mkS wsT3 [] ((true, true, ()), ())) (by kernel_rfl)
    refine k9.opsL (C := mkC tys [] []) tysOK ctrs_nil (ts := wsT4) (bs := []) (G := fun z => z = some ((true, ()), ())) [11, 12] (by kernel_rfl) (by kernel_rfl) ?_ ?_ (fun h => by cases h)
    · have k10 : opsT (mkC tys [] []) wsT4 [] [wsO 11, wsO 12] (mkS wsT3 [] ((true, true, ()), ())) = _ := congrFun ws11_tree ((true, true, ()), ())
      exact (congrArg (Tree.holds _) k10).mpr rfl
    intro z a7 w7 hz k10
    have hz' := Option.some.inj hz
    subst hz'
    refine RegTo.nil ?_
    show LTo Try.prog b ([wsB 2] ++ []) _ a7 w7
    refine k10.piece (C := mkC tys [] []) tysOK ctrs_nil mixed (fn := fnOf Try.prog 150) (res := [.bool]) (ts := []) (bs := []) (G := fun z => z = (some true, none)) (by kernel_rfl) (by kernel_rfl) ?_ ?_ ?_ (fun h => by cases h)
    · have k11 : pieceT (mkC tys [] []) (fnOf Try.prog 150) [.bool] [] [] [wsB 2] (mkS wsT4 [] ((true, ()), ())) = _ := congrFun ws2_tree ((true, ()), ())
      exact (congrArg (Tree.holds _) k11).mpr rfl
    · intro y s' a' w' hy j1 j2 j3
      have := Option.some.inj (Prod.mk.inj hy).1
      subst this
      exact ⟨.inr rfl, j2, s', j1, j3⟩
    · intro z a' w' hz; cases hz
end
/-! Sent -/
theorem geqK (x y : DKept) : geq gKept x y = decide (x = y) := by
  obtain ⟨x1, x2, x3, x4⟩ := x
  obtain ⟨y1, y2, y3, y4⟩ := y
  by_cases h : (x1, x2, x3, x4) = (y1, y2, y3, y4)
  · rw [decide_eq_true h]
    cases h
    simp [geq, gKept]
  · rw [decide_eq_false h]
    simp only [Prod.mk.injEq] at h
    simp only [geq, gKept]
    simp only [Bool.and_eq_false_iff, beq_eq_false_iff_ne]
    by_cases h1 : x1 = y1
    · by_cases h2 : x2 = y2
      · by_cases h3 : x3 = y3
        · exact .inr (.inr (.inr fun h4 => h ⟨h1, h2, h3, h4⟩))
        · exact .inr (.inr (.inl h3))
      · exact .inr (.inl h2)
    · exact .inl h1
abbrev KqS := (List DKept × List DKept × Bool × Int × Int × Unit) × Unit
def kqPre (x : KqS) : Prop := x.1.1.length = x.1.2.1.length ∧ 0 ≤ x.1.2.2.2.2.1 ∧ x.1.2.2.2.2.1 ≤ x.1.2.2.2.1 ∧ x.1.2.2.2.1 = x.1.1.length ∧ x.1.2.2.2.1 ≤ 140737488355328
def kqStp (x : KqS) : Ex × KqS :=
  bif decide (x.1.2.2.2.2.1 < x.1.2.2.2.1) then
    bif decide (x.1.1.getD x.1.2.2.2.2.1.toNat kept0 = x.1.2.1.getD x.1.2.2.2.2.1.toNat kept0) then (.normal, ((x.1.1, x.1.2.1, x.1.2.2.1, x.1.2.2.2.1, x.1.2.2.2.2.1 + 1, ()), ()))
    else (.ret, ((x.1.1, x.1.2.1, false, x.1.2.2.2), ()))
  else (.exit 0, x)
def kqMu (x : KqS) : Nat := (x.1.2.2.2.1 - x.1.2.2.2.2.1).toNat
def kqD : LoopD where
  prom := []
  ts := [(0, .val (.sl gKept)), (1, .val (.sl gKept)), (4, .val .bool), (12, .val (.int .i64)), (13, .val (.int .i64))]
  bs := []
  pre := fun (x : KqS) => kqPre x
  out := fun (x : KqS) => out2 0 (runF kqStp (kqMu x + 1) x)
theorem kq_round : (fun x : KqS => roundOf (mkC tys [] [(0, kqD.spec)]) kqD (loopB 0 (bodyOf (fnOf Try.prog 175))) x) = (fun x => Tree.br (decide (x.1.2.2.2.2.1 < x.1.2.2.2.1)) (Tree.need ((0 : Int) ≤ x.1.2.2.2.2.1 ∧ x.1.2.2.2.2.1 < (↑(List.length x.1.1) : Int)) (Tree.need ((0 : Int) ≤ x.1.2.2.2.2.1 ∧ x.1.2.2.2.2.1 < (↑(List.length x.1.2.1) : Int)) (Tree.br (!geq (GTy.prod (GTy.int IntKind.i64) (GTy.prod GTy.str (GTy.prod (GTy.int IntKind.i64) (GTy.int IntKind.i64)))) (List.getD x.1.1 (Int.toNat x.1.2.2.2.2.1) ((0 : Int), [], (0 : Int), (0 : Int))) (List.getD x.1.2.1 (Int.toNat x.1.2.2.2.2.1) ((0 : Int), [], (0 : Int), (0 : Int)))) (Tree.leaf (Ex.ret, some ((x.1.1, x.1.2.1, false, x.1.2.2.2.1, x.1.2.2.2.2.1, ()), ()))) (Tree.leaf (Ex.normal, some ((x.1.1, x.1.2.1, x.1.2.2.1, x.1.2.2.2.1, IntKind.wrap IntKind.i64 (x.1.2.2.2.2.1 + (1 : Int)), ()), ())))))) (Tree.leaf (Ex.exit (0 : Nat), some ((x.1.1, x.1.2.1, x.1.2.2.1, x.1.2.2.2.1, x.1.2.2.2.2.1, ()), ())))) := by kernel_rfl
def kequalC : Ctr := { args := [.sl gKept, .sl gKept], res := [.bool], pre := none, fn := fun (x : List DKept × List DKept) => decide (x.1 = x.2) }
theorem kequal_tree : (fun x : List DKept × List DKept => evFn (mkC tys [] [(0, kqD.spec)]) (fnOf Try.prog 175) (resL kequalC.args x) kequalC.res) = (fun x => Tree.br ((↑(List.length x.1) : Int) != (↑(List.length x.2) : Int)) (Tree.leaf false) (Tree.need (kqPre ((x.1, x.2, false, (↑(List.length x.1) : Int), (0 : Int), PUnit.unit), PUnit.unit)) (Tree.br (isRet (runF kqStp (kqMu ((x.1, x.2, false, (↑(List.length x.1) : Int), (0 : Int), PUnit.unit), PUnit.unit) + (1 : Nat)) ((x.1, x.2, false, (↑(List.length x.1) : Int), (0 : Int), PUnit.unit), PUnit.unit)).1) (Tree.leaf (runF kqStp (kqMu ((x.1, x.2, false, (↑(List.length x.1) : Int), (0 : Int), PUnit.unit), PUnit.unit) + (1 : Nat)) ((x.1, x.2, false, (↑(List.length x.1) : Int), (0 : Int), PUnit.unit), PUnit.unit)).2.1.2.2.1) (Tree.leaf true)))) := by kernel_rfl
theorem kqStp_ends (x : KqS) : (kqStp x).1 = .normal ∨ (kqStp x).1 = .exit 0 ∨ (kqStp x).1 = .ret := by
  unfold kqStp
  cases decide (x.1.2.2.2.2.1 < x.1.2.2.2.1) <;> cases decide (x.1.1.getD x.1.2.2.2.2.1.toNat kept0 = x.1.2.1.getD x.1.2.2.2.2.1.toNat kept0) <;> simp
theorem kq_go {x : KqS} (hp : kqPre x) (hn : (kqStp x).1 = .normal) : kqPre (kqStp x).2 ∧ kqMu (kqStp x).2 < kqMu x := by
  obtain ⟨h1, h2, h3, h4, h5⟩ := hp
  unfold kqStp at hn ⊢
  cases hlt : decide (x.1.2.2.2.2.1 < x.1.2.2.2.1) with
  | false => rw [hlt] at hn; cases hn
  | true =>
    have hlt' := of_decide_eq_true hlt
    cases he : decide (x.1.1.getD x.1.2.2.2.2.1.toNat kept0 = x.1.2.1.getD x.1.2.2.2.2.1.toNat kept0) with
    | false => rw [hlt, he] at hn; cases hn
    | true =>
      simp only [cond_true]
      exact ⟨⟨h1, by show 0 ≤ x.1.2.2.2.2.1 + 1; omega, by show x.1.2.2.2.2.1 + 1 ≤ x.1.2.2.2.1; omega, h4, h5⟩, by show (x.1.2.2.2.1 - (x.1.2.2.2.2.1 + 1)).toNat < (x.1.2.2.2.1 - x.1.2.2.2.2.1).toNat; omega⟩
theorem kq_loop : LoopOK (mkC tys [] [(0, kqD.spec)]) kqD.spec (loopB 0 (bodyOf (fnOf Try.prog 175))) :=
  loopF2_ok (id := 0) (D := kqD) (fun x => congrFun kq_round x) kqStp kqMu (fun _ => rfl) kqStp_ends fun (x : KqS) hp => by
    refine ⟨?_, fun hn => kq_go hp hn⟩
    obtain ⟨h1, h2, h3, h4, h5⟩ := hp
    have hz : ((0 : Int), ([] : List UInt8), (0 : Int), (0 : Int)) = kept0 := rfl
    have hg : ∀ a b : DKept, geq (.prod (.int .i64) (.prod .str (.prod (.int .i64) (.int .i64)))) a b = decide (a = b) := geqK
    simp only [Tree.holds, hz, hg]
    unfold kqStp
    refine ⟨fun h => ?_, fun h => by rw [h]; rfl⟩
    have hlt := of_decide_eq_true h
    refine ⟨⟨h2, by omega⟩, ⟨h2, by omega⟩, fun g => ?_, fun g => ?_⟩
    · have g' : decide (x.1.1.getD x.1.2.2.2.2.1.toNat kept0 = x.1.2.1.getD x.1.2.2.2.2.1.toNat kept0) = false := by simpa using g
      rw [h, g']; rfl
    · have g' : decide (x.1.1.getD x.1.2.2.2.2.1.toNat kept0 = x.1.2.1.getD x.1.2.2.2.2.1.toNat kept0) = true := by simpa using g
      rw [h, g', i64_id (n := x.1.2.2.2.2.1 + 1) (by omega) (by omega)]
      rfl
theorem kq_run : ∀ (n : Nat) (x : KqS), kqPre x → kqMu x < n →
    ((runF kqStp n x).1 = .ret ∧ (runF kqStp n x).2.1.2.2.1 = false ∧ x.1.1.drop x.1.2.2.2.2.1.toNat ≠ x.1.2.1.drop x.1.2.2.2.2.1.toNat) ∨ ((runF kqStp n x).1 = .exit 0 ∧ x.1.1.drop x.1.2.2.2.2.1.toNat = x.1.2.1.drop x.1.2.2.2.2.1.toNat)
  | 0, _, _, h => by omega
  | n + 1, x, hp, hn => by
    obtain ⟨h1, h2, h3, h4, h5⟩ := id hp
    cases hlt : decide (x.1.2.2.2.2.1 < x.1.2.2.2.1) with
    | false =>
      have hlt' := of_decide_eq_false hlt
      have e : kqStp x = (.exit 0, x) := by unfold kqStp; rw [hlt]; rfl
      rw [runF_end (by rw [e]; simp), e]
      exact .inr ⟨rfl, by rw [List.drop_eq_nil_of_le (by omega), List.drop_eq_nil_of_le (by omega)]⟩
    | true =>
      have hlt' := of_decide_eq_true hlt
      have d1 := drop_elt (l := x.1.1) kept0 h2 (by omega)
      have d2 := drop_elt (l := x.1.2.1) kept0 h2 (by omega)
      cases he : decide (x.1.1.getD x.1.2.2.2.2.1.toNat kept0 = x.1.2.1.getD x.1.2.2.2.2.1.toNat kept0) with
      | false =>
        have e : kqStp x = (.ret, ((x.1.1, x.1.2.1, false, x.1.2.2.2), ())) := by unfold kqStp; rw [hlt, he]; rfl
        have he' := of_decide_eq_false he
        rw [runF_end (by rw [e]; simp), e, d1, d2]
        exact .inl ⟨rfl, rfl, fun h => he' (List.cons.inj h).1⟩
      | true =>
        have e : kqStp x = (.normal, ((x.1.1, x.1.2.1, x.1.2.2.1, x.1.2.2.2.1, x.1.2.2.2.2.1 + 1, ()), ())) := by unfold kqStp; rw [hlt, he]; rfl
        have he' := of_decide_eq_true he
        obtain ⟨g1, g2⟩ := kq_go hp (by rw [e])
        have ih := kq_run n _ g1 (by omega)
        rw [e] at ih
        rw [runF_go e, d1, d2]
        rcases ih with ⟨i1, i2, i3⟩ | ⟨i1, i2⟩
        · exact .inl ⟨i1, i2, fun h => i3 (List.cons.inj h).2⟩
        · exact .inr ⟨i1, by rw [he']; exact congrArg _ i2⟩
theorem kequal_ok : CtrOK Try.prog 175 kequalC :=
  fun_ok (G := []) (Λ := [(0, kqD.spec)]) tysOK ctrs_nil mixed (by kernel_rfl) (by kernel_rfl) (by kernel_rfl) (by kernel_rfl) (lp_cons kq_loop lp_nil) fun (x : List DKept × List DKept) hw _ => by
    rw [congrFun kequal_tree x]
    have e : kequalC.fn x = decide (x.1 = x.2) := rfl
    rw [e]
    have ha : wt (.sl gKept) x.1 := hw.1
    have hl : x.1.length ≤ 140737488355328 := ha.1
    simp only [Tree.holds]
    refine ⟨fun h => ?_, fun h => ?_⟩
    · have : x.1 ≠ x.2 := fun e => by rw [e] at h; simp at h
      rw [decide_eq_false this]
    · have hlen : (x.1.length : Int) = x.2.length := by simpa using h
      have hP : kqPre ((x.1, x.2, false, (x.1.length : Int), (0 : Int), PUnit.unit), PUnit.unit) := ⟨by show x.1.length = x.2.length; omega, Int.le_refl _, by show (0 : Int) ≤ (x.1.length : Int); omega, rfl, by show (x.1.length : Int) ≤ 140737488355328; omega⟩
      have key := kq_run _ _ hP (Nat.lt_succ_self _)
      refine ⟨hP, ?_⟩
      have hd1 : x.1.drop (0 : Int).toNat = x.1 := rfl
      have hd2 : x.2.drop (0 : Int).toNat = x.2 := rfl
      simp only [hd1, hd2] at key
      generalize runF kqStp _ _ = w at key ⊢
      rcases key with ⟨k1, k2, k3⟩ | ⟨k1, k2⟩
      · rw [k1, k2, decide_eq_false k3]
        exact ⟨fun _ => rfl, (fun g => by cases g)⟩
      · rw [k1, decide_eq_true k2]
        exact ⟨(fun g => by cases g), fun _ => rfl⟩
def rsame19C : Ctr := { args := [.sl gKept, .sl gKept], res := [.bool], pre := none, fn := fun (x : List DKept × List DKept) => decide (x.1 = x.2) }
def rsame19G : List (Nat × Ctr) := [(175, kequalC)]
theorem rsame19_tree : (fun x : List DKept × List DKept => evFn (mkC tys rsame19G []) (fnOf Try.prog 149) (resL rsame19C.args x) rsame19C.res) = (fun x => Tree.leaf (decide (x.1 = x.2))) := by kernel_rfl
theorem rsame19_ok : CtrOK Try.prog 149 rsame19C :=
  fun_ok (G := rsame19G) (Λ := []) tysOK (ctrs_cons kequal_ok ctrs_nil) mixed (by kernel_rfl) (by kernel_rfl) (by kernel_rfl) (by kernel_rfl) lp_nil fun (x : List DKept × List DKept) hw _ => by
    rw [congrFun rsame19_tree x]
    exact holds_val (d := rsame19C.fn x) (by kernel_rfl) (by simp [Tree.safe])
def msame19G : List (Nat × Ctr) := [(149, rsame19C), (150, wsame19C), (151, iequalC)]
theorem msame19G_ok : CtrsOK Try.prog (fun f => lk f msame19G) := (ctrs_cons rsame19_ok (ctrs_cons wsame19_ok (ctrs_cons iequal_ok ctrs_nil)))
def msP (x : DMrl × DMrl) : Prop := x.1.2.2.1.2 = [] ∧ x.2.2.2.1.2 = [] ∧ x.1.2.2.1.1 = x.2.2.2.1.1 ∧ x.1.2.2.2 = x.2.2.2.2
def msame19C : Ctr := { args := [gBox, gBox], res := [.bool], pre := some msP, fn := fun (x : DMrl × DMrl) => bif x.1.1 == x.2.1 then decide (x.1.2.1 = x.2.2.1) else false }
theorem msame19_tree : (fun x : DMrl × DMrl => evFn (mkC tys msame19G []) (fnOf Try.prog 109) (resL [gBox, gBox] x) [.bool]) = (fun x => Tree.need (((bif x.1.1 == x.2.1 then decide (x.1.2.1 = x.2.2.1) else false) == true && true) = true → wsP (x.1.2.2.1, x.2.2.2.1)) (Tree.need (((bif bif x.1.1 == x.2.1 then decide (x.1.2.1 = x.2.2.1) else false then true else false) == true && true) = true → iequalP (x.1.2.2.2, x.2.2.2.2)) (Tree.leaf (bif bif bif x.1.1 == x.2.1 then decide (x.1.2.1 = x.2.2.1) else false then true else false then true else false)))) := by kernel_rfl
theorem msame19_ok : CtrOK Try.prog 109 msame19C :=
  fun_ok (G := msame19G) (Λ := []) tysOK msame19G_ok mixed (by kernel_rfl) (by kernel_rfl) (by kernel_rfl) (by kernel_rfl) lp_nil fun (x : DMrl × DMrl) hw hp => by
    have hq : msP x := hp msP rfl
    have h1 := hq.1
    have h2 := hq.2.1
    have h3 := hq.2.2.1
    have h4 := hq.2.2.2
    show (evFn (mkC tys msame19G []) (fnOf Try.prog 109) (resL [gBox, gBox] x) [.bool]).holds (fun y => y = bif x.1.1 == x.2.1 then decide (x.1.2.1 = x.2.2.1) else false)
    rw [congrFun msame19_tree x]
    simp only [Tree.holds]
    refine ⟨fun _ => ⟨h1, h2, h3⟩, fun _ => h4, ?_⟩
    cases (bif x.1.1 == x.2.1 then decide (x.1.2.1 = x.2.2.1) else false) <;> rfl
end Go.Ev.P
/- What wakes. -/
set_option linter.unusedVariables false
set_option linter.unusedSimpArgs false
namespace Go.Ev.P
open Go.Proofs Go.Conc
def farC : Ctr := { args := [.int .i64, .int .i64], res := [gItem], pre := none, fn := fun (x : Int × Int) => ((x.1, x.2, 4294967295, -1) : DItem) }
def farG : List (Nat × Ctr) := []
theorem far_tree : (fun x : Int × Int => evFn (mkC tys farG []) (fnOf Try.prog 107) (resL farC.args x) farC.res) = (fun x => Tree.leaf (x.1, x.2, (4294967295 : Int), (-1 : Int))) := by kernel_rfl
theorem far_ok : CtrOK Try.prog 107 farC :=
  fun_ok (G := farG) (Λ := []) tysOK ctrs_nil mixed (by kernel_rfl) (by kernel_rfl) (by kernel_rfl) (by kernel_rfl) lp_nil fun (x : Int × Int) hw _ => by
    rw [congrFun far_tree x]
    exact holds_val (d := farC.fn x) (by kernel_rfl) (by simp [Tree.safe])
def awake19G : List (Nat × Ctr) := [(60, mnewC), (62, lmeC), (107, farC), (59, lrulesC), (61, sendC), (63, toldC), (64, hearC), (65, cameC), (66, mackedC), (67, mtickC), (69, midleC), (108, mroomC), (109, msame19C)]
theorem awake19G_ok : CtrsOK Try.prog (fun f => lk f awake19G) := (ctrs_cons mnew_ok (ctrs_cons lme_ok (ctrs_cons far_ok (ctrs_cons lrules_ok (ctrs_cons send_ok (ctrs_cons told_ok (ctrs_cons hear_ok (ctrs_cons came_ok (ctrs_cons macked_ok (ctrs_cons mtick_ok (ctrs_cons midle_ok (ctrs_cons mroom_ok (ctrs_cons msame19_ok ctrs_nil)))))))))))))
def awake19C : Ctr := { args := [], res := [.bool], pre := none, fn := fun (x : Unit) => true }
theorem awake19_tree : (fun x : Unit => evFn (mkC tys awake19G []) (fnOf Try.prog 58) (resL awake19C.args x) awake19C.res) = (fun x => Tree.need (sendP (((0 : Int), [], ((0 : Int), []), []), ((1 : Int), ((1 : Int), (0 : Int)), (2 : Int), (0 : Int)), [((1 : Int), (0 : Int), (4294967295 : Int), (-1 : Int)), ((2 : Int), (0 : Int), (4294967295 : Int), (-1 : Int)), ((3 : Int), (0 : Int), (4294967295 : Int), (-1 : Int)), ((4 : Int), (0 : Int), (4294967295 : Int), (-1 : Int)), ((5 : Int), (0 : Int), (4294967295 : Int), (-1 : Int)), ((6 : Int), (0 : Int), (4294967295 : Int), (-1 : Int)), ((7 : Int), (0 : Int), (4294967295 : Int), (-1 : Int))], (2 : Int), (8 : Int), (2 : Int), (9 : Int))) (Tree.br false (Tree.leaf false) (Tree.need ((0 : Int) ≤ (0 : Int) ∧ (0 : Int) < (2 : Int)) (Tree.need ((0 : Int) ≤ (1 : Int) ∧ (1 : Int) < (2 : Int)) (Tree.need (takePre (((0 : Int), []), (toldF (List.getD (sendF ((0 : Int), [], ((0 : Int), []), []) ((1 : Int), ((1 : Int), (0 : Int)), (2 : Int), (0 : Int)) [((1 : Int), (0 : Int), (4294967295 : Int), (-1 : Int)), ((2 : Int), (0 : Int), (4294967295 : Int), (-1 : Int)), ((3 : Int), (0 : Int), (4294967295 : Int), (-1 : Int)), ((4 : Int), (0 : Int), (4294967295 : Int), (-1 : Int)), ((5 : Int), (0 : Int), (4294967295 : Int), (-1 : Int)), ((6 : Int), (0 : Int), (4294967295 : Int), (-1 : Int)), ((7 : Int), (0 : Int), (4294967295 : Int), (-1 : Int))] ((2 : Int), (8 : Int), (2 : Int), (9 : Int))).2.1 (1 : Nat) [])).1)) (Tree.need (takePre ((hearF ((0 : Int), [], ((0 : Int), []), []) ((2 : Int), ((1 : Int), (0 : Int)), (2 : Int), (0 : Int)) (toldF (List.getD (sendF ((0 : Int), [], ((0 : Int), []), []) ((1 : Int), ((1 : Int), (0 : Int)), (2 : Int), (0 : Int)) [((1 : Int), (0 : Int), (4294967295 : Int), (-1 : Int)), ((2 : Int), (0 : Int), (4294967295 : Int), (-1 : Int)), ((3 : Int), (0 : Int), (4294967295 : Int), (-1 : Int)), ((4 : Int), (0 : Int), (4294967295 : Int), (-1 : Int)), ((5 : Int), (0 : Int), (4294967295 : Int), (-1 : Int)), ((6 : Int), (0 : Int), (4294967295 : Int), (-1 : Int)), ((7 : Int), (0 : Int), (4294967295 : Int), (-1 : Int))] ((2 : Int), (8 : Int), (2 : Int), (9 : Int))).2.1 (1 : Nat) [])).1).1.2.2.1, (toldF (List.getD (sendF ((0 : Int), [], ((0 : Int), []), []) ((1 : Int), ((1 : Int), (0 : Int)), (2 : Int), (0 : Int)) [((1 : Int), (0 : Int), (4294967295 : Int), (-1 : Int)), ((2 : Int), (0 : Int), (4294967295 : Int), (-1 : Int)), ((3 : Int), (0 : Int), (4294967295 : Int), (-1 : Int)), ((4 : Int), (0 : Int), (4294967295 : Int), (-1 : Int)), ((5 : Int), (0 : Int), (4294967295 : Int), (-1 : Int)), ((6 : Int), (0 : Int), (4294967295 : Int), (-1 : Int)), ((7 : Int), (0 : Int), (4294967295 : Int), (-1 : Int))] ((2 : Int), (8 : Int), (2 : Int), (9 : Int))).2.1 (0 : Nat) [])).1)) (Tree.need ((2 : Nat) ≤ (100000 : Nat)) (Tree.need (takePre ((hearF (hearF ((0 : Int), [], ((0 : Int), []), []) ((2 : Int), ((1 : Int), (0 : Int)), (2 : Int), (0 : Int)) (toldF (List.getD (sendF ((0 : Int), [], ((0 : Int), []), []) ((1 : Int), ((1 : Int), (0 : Int)), (2 : Int), (0 : Int)) [((1 : Int), (0 : Int), (4294967295 : Int), (-1 : Int)), ((2 : Int), (0 : Int), (4294967295 : Int), (-1 : Int)), ((3 : Int), (0 : Int), (4294967295 : Int), (-1 : Int)), ((4 : Int), (0 : Int), (4294967295 : Int), (-1 : Int)), ((5 : Int), (0 : Int), (4294967295 : Int), (-1 : Int)), ((6 : Int), (0 : Int), (4294967295 : Int), (-1 : Int)), ((7 : Int), (0 : Int), (4294967295 : Int), (-1 : Int))] ((2 : Int), (8 : Int), (2 : Int), (9 : Int))).2.1 (1 : Nat) [])).1).1 ((2 : Int), ((1 : Int), (0 : Int)), (2 : Int), (0 : Int)) (toldF (List.getD (sendF ((0 : Int), [], ((0 : Int), []), []) ((1 : Int), ((1 : Int), (0 : Int)), (2 : Int), (0 : Int)) [((1 : Int), (0 : Int), (4294967295 : Int), (-1 : Int)), ((2 : Int), (0 : Int), (4294967295 : Int), (-1 : Int)), ((3 : Int), (0 : Int), (4294967295 : Int), (-1 : Int)), ((4 : Int), (0 : Int), (4294967295 : Int), (-1 : Int)), ((5 : Int), (0 : Int), (4294967295 : Int), (-1 : Int)), ((6 : Int), (0 : Int), (4294967295 : Int), (-1 : Int)), ((7 : Int), (0 : Int), (4294967295 : Int), (-1 : Int))] ((2 : Int), (8 : Int), (2 : Int), (9 : Int))).2.1 (0 : Nat) [])).1).1.2.2.1, (toldF (List.getD (sendF ((0 : Int), [], ((0 : Int), []), []) ((1 : Int), ((1 : Int), (0 : Int)), (2 : Int), (0 : Int)) [((1 : Int), (0 : Int), (4294967295 : Int), (-1 : Int)), ((2 : Int), (0 : Int), (4294967295 : Int), (-1 : Int)), ((3 : Int), (0 : Int), (4294967295 : Int), (-1 : Int)), ((4 : Int), (0 : Int), (4294967295 : Int), (-1 : Int)), ((5 : Int), (0 : Int), (4294967295 : Int), (-1 : Int)), ((6 : Int), (0 : Int), (4294967295 : Int), (-1 : Int)), ((7 : Int), (0 : Int), (4294967295 : Int), (-1 : Int))] ((2 : Int), (8 : Int), (2 : Int), (9 : Int))).2.1 (0 : Nat) [])).1)) (Tree.need ((2 : Nat) ≤ (100000 : Nat)) (Tree.br false (Tree.leaf false) (Tree.need ((true == true && true) = true → (0 : Int) ≤ (0 : Int) ∧ (0 : Int) < (1 : Int)) (Tree.need ((true == true && true) = true → msP ((sendF ((0 : Int), [], ((0 : Int), []), []) ((1 : Int), ((1 : Int), (0 : Int)), (2 : Int), (0 : Int)) [((1 : Int), (0 : Int), (4294967295 : Int), (-1 : Int)), ((2 : Int), (0 : Int), (4294967295 : Int), (-1 : Int)), ((3 : Int), (0 : Int), (4294967295 : Int), (-1 : Int)), ((4 : Int), (0 : Int), (4294967295 : Int), (-1 : Int)), ((5 : Int), (0 : Int), (4294967295 : Int), (-1 : Int)), ((6 : Int), (0 : Int), (4294967295 : Int), (-1 : Int)), ((7 : Int), (0 : Int), (4294967295 : Int), (-1 : Int))] ((2 : Int), (8 : Int), (2 : Int), (9 : Int))).1, (sendF ((0 : Int), [], ((0 : Int), []), []) ((1 : Int), ((1 : Int), (0 : Int)), (2 : Int), (0 : Int)) [((1 : Int), (0 : Int), (4294967295 : Int), (-1 : Int)), ((2 : Int), (0 : Int), (4294967295 : Int), (-1 : Int)), ((3 : Int), (0 : Int), (4294967295 : Int), (-1 : Int)), ((4 : Int), (0 : Int), (4294967295 : Int), (-1 : Int)), ((5 : Int), (0 : Int), (4294967295 : Int), (-1 : Int)), ((6 : Int), (0 : Int), (4294967295 : Int), (-1 : Int)), ((7 : Int), (0 : Int), (4294967295 : Int), (-1 : Int))] ((2 : Int), (8 : Int), (2 : Int), (9 : Int))).1)) (Tree.need ((true == true && true) = true → msP ((sendF ((0 : Int), [], ((0 : Int), []), []) ((1 : Int), ((1 : Int), (0 : Int)), (2 : Int), (0 : Int)) [((1 : Int), (0 : Int), (4294967295 : Int), (-1 : Int)), ((2 : Int), (0 : Int), (4294967295 : Int), (-1 : Int)), ((3 : Int), (0 : Int), (4294967295 : Int), (-1 : Int)), ((4 : Int), (0 : Int), (4294967295 : Int), (-1 : Int)), ((5 : Int), (0 : Int), (4294967295 : Int), (-1 : Int)), ((6 : Int), (0 : Int), (4294967295 : Int), (-1 : Int)), ((7 : Int), (0 : Int), (4294967295 : Int), (-1 : Int))] ((2 : Int), (8 : Int), (2 : Int), (9 : Int))).1, (tickM (sendF ((0 : Int), [], ((0 : Int), []), []) ((1 : Int), ((1 : Int), (0 : Int)), (2 : Int), (0 : Int)) [((1 : Int), (0 : Int), (4294967295 : Int), (-1 : Int)), ((2 : Int), (0 : Int), (4294967295 : Int), (-1 : Int)), ((3 : Int), (0 : Int), (4294967295 : Int), (-1 : Int)), ((4 : Int), (0 : Int), (4294967295 : Int), (-1 : Int)), ((5 : Int), (0 : Int), (4294967295 : Int), (-1 : Int)), ((6 : Int), (0 : Int), (4294967295 : Int), (-1 : Int)), ((7 : Int), (0 : Int), (4294967295 : Int), (-1 : Int))] ((2 : Int), (8 : Int), (2 : Int), (9 : Int))).1 ((2 : Int), (8 : Int), (2 : Int), (9 : Int))).1)) (Tree.leaf true)))))))))))))) := by kernel_rfl
def awP0 : DPart := ((1 : Int), (((1 : Int), (0 : Int)), (2 : Int), (0 : Int)), (0 : Int), true, [((1 : Int), (0 : Int), (4294967295 : Int), (-1 : Int)), ((2 : Int), (0 : Int), (4294967295 : Int), (-1 : Int)), ((3 : Int), (0 : Int), (4294967295 : Int), (-1 : Int)), ((4 : Int), (0 : Int), (4294967295 : Int), (-1 : Int)), ((5 : Int), (0 : Int), (4294967295 : Int), (-1 : Int)), ((6 : Int), (0 : Int), (4294967295 : Int), (-1 : Int))])
def awP1 : DPart := ((1 : Int), (((1 : Int), (0 : Int)), (2 : Int), (0 : Int)), (1 : Int), false, [((7 : Int), (0 : Int), (4294967295 : Int), (-1 : Int))])
def awK0 : DAck := ((2 : Int), (((1 : Int), (0 : Int)), (2 : Int), (0 : Int)), (0 : Int), (2 : Int))
def awK1 : DAck := ((2 : Int), (((1 : Int), (0 : Int)), (2 : Int), (0 : Int)), (2 : Int), (0 : Int))
theorem aw_pair : wt gPair ((((1 : Int), (0 : Int)), (2 : Int), (0 : Int)) : DPair) := by
  have h0 : IntKind.u32.has 0 := (has_u32 _).2 (by omega)
  have h1 : IntKind.u32.has 1 := (has_u32 _).2 (by omega)
  have h2 : IntKind.u32.has 2 := (has_u32 _).2 (by omega)
  exact ⟨⟨h1, h0⟩, ⟨h2, h0⟩⟩
theorem aw_item (n : Int) (h0 : 1 ≤ n) (h1 : n ≤ 7) : wtI (n, 0, 4294967295, -1) ∧ itemOk (n, 0, 4294967295, -1) = true := by
  have : n = 1 ∨ n = 2 ∨ n = 3 ∨ n = 4 ∨ n = 5 ∨ n = 6 ∨ n = 7 := by omega
  refine ⟨⟨by show (0 : Int) ≤ 4294967295; omega, by show (4294967295 : Int) ≤ 4294967295; omega⟩, ?_⟩
  rcases this with rfl | rfl | rfl | rfl | rfl | rfl | rfl <;> decide
theorem aw_in0 : PartIn awP0 := ⟨by show (0 : Int) ≤ 1; omega, by show (1 : Int) < 16; omega, by show (0 : Int) ≤ 0; omega, by show (0 : Int) ≤ 65535; omega, by show 6 ≤ 6; omega, fun x hx => by
  have : x ∈ [((1 : Int), (0 : Int), (4294967295 : Int), (-1 : Int)), ((2 : Int), (0 : Int), (4294967295 : Int), (-1 : Int)), ((3 : Int), (0 : Int), (4294967295 : Int), (-1 : Int)), ((4 : Int), (0 : Int), (4294967295 : Int), (-1 : Int)), ((5 : Int), (0 : Int), (4294967295 : Int), (-1 : Int)), ((6 : Int), (0 : Int), (4294967295 : Int), (-1 : Int))] := hx
  simp only [List.mem_cons, List.not_mem_nil, or_false] at this
  rcases this with rfl | rfl | rfl | rfl | rfl | rfl <;> exact aw_item _ (by omega) (by omega), aw_pair⟩
theorem aw_in1 : PartIn awP1 := ⟨by show (0 : Int) ≤ 1; omega, by show (1 : Int) < 16; omega, by show (0 : Int) ≤ 1; omega, by show (1 : Int) ≤ 65535; omega, by show 1 ≤ 6; omega, fun x hx => by
  have : x ∈ [((7 : Int), (0 : Int), (4294967295 : Int), (-1 : Int))] := hx
  simp only [List.mem_cons, List.not_mem_nil, or_false] at this
  subst this
  exact aw_item _ (by omega) (by omega), aw_pair⟩
theorem aw_ink0 : AckIn awK0 := ⟨by show (0 : Int) ≤ 2; omega, by show (2 : Int) < 16; omega, by show (0 : Int) ≤ 0; omega, by show (0 : Int) ≤ 65535; omega, by show (0 : Int) ≤ 2; omega, by show (2 : Int) ≤ 255; omega, aw_pair⟩
theorem aw_ink1 : AckIn awK1 := ⟨by show (0 : Int) ≤ 2; omega, by show (2 : Int) < 16; omega, by show (0 : Int) ≤ 2; omega, by show (2 : Int) ≤ 65535; omega, by show (0 : Int) ≤ 0; omega, by show (0 : Int) ≤ 255; omega, aw_pair⟩
theorem aw_send0 : sendF ((0 : Int), [], ((0 : Int), []), []) ((1 : Int), ((1 : Int), (0 : Int)), (2 : Int), (0 : Int)) [((1 : Int), (0 : Int), (4294967295 : Int), (-1 : Int)), ((2 : Int), (0 : Int), (4294967295 : Int), (-1 : Int)), ((3 : Int), (0 : Int), (4294967295 : Int), (-1 : Int)), ((4 : Int), (0 : Int), (4294967295 : Int), (-1 : Int)), ((5 : Int), (0 : Int), (4294967295 : Int), (-1 : Int)), ((6 : Int), (0 : Int), (4294967295 : Int), (-1 : Int)), ((7 : Int), (0 : Int), (4294967295 : Int), (-1 : Int))] ((2 : Int), (8 : Int), (2 : Int), (9 : Int)) = (((2 : Int), [((0 : Int), (fpartF awP0).1, (1 : Int), (2 : Int)), ((1 : Int), (fpartF awP1).1, (1 : Int), (2 : Int))], ((0 : Int), []), []), [(fpartF awP0).1, (fpartF awP1).1], (0 : Int)) := by kernel_rfl
theorem aw_send : sendF ((0 : Int), [], ((0 : Int), []), []) ((1 : Int), ((1 : Int), (0 : Int)), (2 : Int), (0 : Int)) [((1 : Int), (0 : Int), (4294967295 : Int), (-1 : Int)), ((2 : Int), (0 : Int), (4294967295 : Int), (-1 : Int)), ((3 : Int), (0 : Int), (4294967295 : Int), (-1 : Int)), ((4 : Int), (0 : Int), (4294967295 : Int), (-1 : Int)), ((5 : Int), (0 : Int), (4294967295 : Int), (-1 : Int)), ((6 : Int), (0 : Int), (4294967295 : Int), (-1 : Int)), ((7 : Int), (0 : Int), (4294967295 : Int), (-1 : Int))] ((2 : Int), (8 : Int), (2 : Int), (9 : Int)) = (((2 : Int), [((0 : Int), frPart awP0, (1 : Int), (2 : Int)), ((1 : Int), frPart awP1, (1 : Int), (2 : Int))], ((0 : Int), []), []), [frPart awP0, frPart awP1], (0 : Int)) := by
  rw [aw_send0, fpart_in aw_in0, fpart_in aw_in1]
theorem aw_take1 : wtakeF ((0 : Int), []) awP1 = (((0 : Int), [awP1]), [], (0 : Int)) := by kernel_rfl
theorem aw_take0 : wtakeF ((0 : Int), [awP1]) awP0 = (((2 : Int), []), [awP0, awP1], (0 : Int)) := by kernel_rfl
theorem aw_take2 : wtakeF ((2 : Int), []) awP0 = (((2 : Int), []), [], (6 : Int)) := by kernel_rfl
theorem aw_hear1 : hearF ((0 : Int), [], ((0 : Int), []), []) ((2 : Int), ((1 : Int), (0 : Int)), (2 : Int), (0 : Int)) awP1 = (((0 : Int), [], ((0 : Int), [awP1]), []), frAck awK0, [], (0 : Int)) := by
  unfold hearF
  simp only [aw_take1]
  have e : ((2 : Int), ((((1 : Int), (0 : Int)), (2 : Int), (0 : Int)) : DPair), bitsA 0 (seqsF ((0 : Int), [awP1]))) = awK0 := by kernel_rfl
  have e2 := fack_in aw_ink0
  rw [← e] at e2
  simp only [gatherGo, bne_self_eq_false, cond_false]
  rw [e2]
  simp only [bne_self_eq_false, cond_false]
  rw [e]
theorem aw_gath : gatherGo [] [] [awP0, awP1] = ([], [[((1 : Int), (0 : Int), (4294967295 : Int), (-1 : Int)), ((2 : Int), (0 : Int), (4294967295 : Int), (-1 : Int)), ((3 : Int), (0 : Int), (4294967295 : Int), (-1 : Int)), ((4 : Int), (0 : Int), (4294967295 : Int), (-1 : Int)), ((5 : Int), (0 : Int), (4294967295 : Int), (-1 : Int)), ((6 : Int), (0 : Int), (4294967295 : Int), (-1 : Int)), ((7 : Int), (0 : Int), (4294967295 : Int), (-1 : Int))]], (0 : Int)) := by kernel_rfl
theorem aw_hear0 : hearF ((0 : Int), [], ((0 : Int), [awP1]), []) ((2 : Int), ((1 : Int), (0 : Int)), (2 : Int), (0 : Int)) awP0 = (((0 : Int), [], ((2 : Int), []), []), frAck awK1, [[((1 : Int), (0 : Int), (4294967295 : Int), (-1 : Int)), ((2 : Int), (0 : Int), (4294967295 : Int), (-1 : Int)), ((3 : Int), (0 : Int), (4294967295 : Int), (-1 : Int)), ((4 : Int), (0 : Int), (4294967295 : Int), (-1 : Int)), ((5 : Int), (0 : Int), (4294967295 : Int), (-1 : Int)), ((6 : Int), (0 : Int), (4294967295 : Int), (-1 : Int)), ((7 : Int), (0 : Int), (4294967295 : Int), (-1 : Int))]], (0 : Int)) := by
  unfold hearF
  simp only [aw_take0]
  have e : ((2 : Int), ((((1 : Int), (0 : Int)), (2 : Int), (0 : Int)) : DPair), bitsA 2 (seqsF ((2 : Int), []))) = awK1 := by kernel_rfl
  have e2 := fack_in aw_ink1
  rw [← e] at e2
  simp only [aw_gath, bne_self_eq_false, cond_false]
  rw [e2]
  simp only [bne_self_eq_false, cond_false]
  rw [e]
theorem aw_hear2 : hearF ((0 : Int), [], ((2 : Int), []), []) ((2 : Int), ((1 : Int), (0 : Int)), (2 : Int), (0 : Int)) awP0 = (((0 : Int), [], ((2 : Int), []), []), frAck awK1, [], (6 : Int)) := by
  unfold hearF
  simp only [aw_take2]
  have e : ((2 : Int), ((((1 : Int), (0 : Int)), (2 : Int), (0 : Int)) : DPair), bitsA 2 (seqsF ((2 : Int), []))) = awK1 := by kernel_rfl
  have e2 := fack_in aw_ink1
  rw [← e] at e2
  have e3 : (bif ((6 : Int) != 0) then ((6 : Int) != 6) else false) = false := by decide
  simp only [e3, gatherGo, bne_self_eq_false, cond_false]
  rw [e2]
  simp only [bne_self_eq_false, cond_false]
  rw [e]
  rfl
theorem aw_acked (f g : List UInt8) : ackedM ((2 : Int), [((0 : Int), f, (1 : Int), (2 : Int)), ((1 : Int), g, (1 : Int), (2 : Int))], ((0 : Int), []), []) awK1 = (((2 : Int), [], ((0 : Int), []), []), (2 : Int)) := by kernel_rfl
theorem aw_tick (f g : List UInt8) : tickM ((2 : Int), [((0 : Int), f, (1 : Int), (2 : Int)), ((1 : Int), g, (1 : Int), (2 : Int))], ((0 : Int), []), []) ((2 : Int), (8 : Int), (2 : Int), (9 : Int)) = (((2 : Int), [((0 : Int), f, (1 : Int), (1 : Int)), ((1 : Int), g, (1 : Int), (1 : Int))], ((0 : Int), []), []), [], false) := by kernel_rfl
theorem awake19_ok : CtrOK Try.prog 58 awake19C :=
  fun_ok (G := awake19G) (Λ := []) tysOK awake19G_ok mixed (by kernel_rfl) (by kernel_rfl) (by kernel_rfl) (by kernel_rfl) lp_nil fun (x : Unit) hw _ => by
    show (evFn (mkC tys awake19G []) (fnOf Try.prog 58) (resL awake19C.args x) awake19C.res).holds (fun y => y = true)
    rw [congrFun awake19_tree x]
    simp only [Tree.holds, aw_send, List.getD_cons_zero, List.getD_cons_succ, told_part aw_in0, told_part aw_in1, aw_hear1, aw_hear0, aw_hear2, came_ack aw_ink1, aw_acked, aw_tick]
    refine ⟨⟨by show (0 : Int) ≤ 1; omega, by show (1 : Int) < 16; omega, by show (0 : Int) ≤ 0; omega, by show (0 : Int) ≤ 60000; omega, by show (1 : Int) ≤ 2; omega, fun x hx => (by cases hx)⟩, fun h => h, fun _ => ⟨⟨by omega, by omega⟩, ⟨by omega, by omega⟩, ⟨by show 0 ≤ 1000; omega, fun y hy => (by cases hy)⟩, ⟨by show 1 ≤ 1000; omega, fun y hy => ?_⟩, by omega, ⟨by show 0 ≤ 1000; omega, fun y hy => (by cases hy)⟩, by omega, fun h => h, fun _ => ⟨fun _ => ⟨by omega, by omega⟩, fun _ => ⟨rfl, rfl, rfl, rfl⟩, fun _ => ⟨rfl, rfl, rfl, rfl⟩, trivial⟩⟩⟩
    have hy' : y = awP1 := by simpa using hy
    rw [hy']
    show 1 ≤ 1000
    omega
end Go.Ev.P
/- All comes: its pieces. -/
set_option linter.unusedVariables false
set_option linter.unusedSimpArgs false
namespace Go.Ev.P
open Go.Proofs Go.Conc
def carG : List (Nat × Ctr) := [(58, awake19C), (59, lrulesC), (60, mnewC), (62, lmeC), (61, sendC), (63, toldC), (64, hearC), (65, cameC), (66, mackedC), (67, mtickC), (69, midleC), (68, itemsC)]
theorem carG_ok : CtrsOK Try.prog (fun f => lk f carG) := ctrs_cons awake19_ok (ctrs_cons lrules_ok (ctrs_cons mnew_ok (ctrs_cons lme_ok (ctrs_cons send_ok (ctrs_cons told_ok (ctrs_cons hear_ok (ctrs_cons came_ok (ctrs_cons macked_ok (ctrs_cons mtick_ok (ctrs_cons midle_ok (ctrs_cons items_ok ctrs_nil)))))))))))
noncomputable def mcB (i : Nat) : Code := rNth (bodyOf (fnOf Try.prog 12)) i
noncomputable def mcL (i : Nat) : Code := rNth (loopB 2 (bodyOf (fnOf Try.prog 12))) i
noncomputable def mcI (i : Nat) : Code := rNth (rIn (mcL 2)) i
noncomputable def mcS (i : Nat) : Code := rNth (rThen (mcI 2)) i
noncomputable def mcH (i : Nat) : Code := rNth (rThen (mcI 4)) i
noncomputable def mcX (i : Nat) : Code := rNth (rThen (mcH 2)) i
noncomputable def mcW (i : Nat) : Code := rNth (rThen (mcH 4)) i
noncomputable def mcA (i : Nat) : Code := rNth (rThen (mcI 6)) i
@[reducible] def mcT (xs : List (Nat × Sh)) : List (Nat × Sh) := (0, .val gPcs) :: (7, .ptr 7 gRules) :: (8, .ptr 8 gBox) :: (9, .ptr 9 gBox) :: (10, .tip 1010) :: (11, .tip 1011) :: (12, .tip 1012) :: (13, .tip 1013) :: (65, .val (.sl (.int .i64))) :: (66, .val (.int .i64)) :: (67, .val (.int .i64)) :: xs
@[reducible] def mcM : List (Nat × BSh) := [(7, .var gRules), (8, .var gBox), (9, .var gBox), (1010, .row 9 .str false), (1011, .row 9 .str false), (1012, .row 29 (.sl gItem) false), (1013, .row 29 (.sl gItem) false)]
abbrev McM := DRules × DMrl × DMrl × List (List UInt8) × List (List UInt8) × List (List DItem) × List (List DItem) × Unit
@[reducible] def mcX1 : List (Nat × Sh) := [(14, .val (.int .i64)), (15, .val (.int .i64))]
@[reducible] def mcX2 : List (Nat × Sh) := [(15, .val (.int .i64))]
@[reducible] def mcX3 : List (Nat × Sh) := [(15, .val (.int .i64)), (19, .val (.int .i64))]
theorem mcl0_tree : (fun x : (List (List DItem) × List Int × Int × Int × Unit) × McM => pieceT (mkC tys [] []) (fnOf Try.prog 12) [.bool] (mcT [(68, .val .bool)]) mcM [mcL 0] (mkS (mcT []) mcM x)) = (fun x => Tree.leaf (none, some ((x.1.1, x.1.2.1, x.1.2.2.1, x.1.2.2.2.1, decide (x.1.2.2.2.1 < x.1.2.2.1), ()), x.2.1, x.2.2.1, x.2.2.2.1, x.2.2.2.2.1, x.2.2.2.2.2.1, x.2.2.2.2.2.2.1, x.2.2.2.2.2.2.2.1, ()))) := by kernel_rfl
theorem mci0_tree : (fun x : (List (List DItem) × List Int × Int × Int × Unit) × McM => pieceT (mkC tys [] []) (fnOf Try.prog 12) [.bool] (mcT ((14, .val (.int .i64)) :: (15, .val (.int .i64)) :: [(75, .val .bool)])) mcM [mcI 0, mcI 1] (mkS (mcT []) mcM x)) = (fun x => Tree.need ((0 : Int) ≤ x.1.2.2.2.1 ∧ x.1.2.2.2.1 < (↑(List.length x.1.2.1) : Int)) (Tree.leaf (none, some ((x.1.1, x.1.2.1, x.1.2.2.1, x.1.2.2.2.1, x.1.2.2.2.1, List.getD x.1.2.1 (Int.toNat x.1.2.2.2.1) (0 : Int), decide (x.1.2.2.2.1 < (↑(List.length x.1.1) : Int)), ()), x.2.1, x.2.2.1, x.2.2.2.1, x.2.2.2.2.1, x.2.2.2.2.2.1, x.2.2.2.2.2.2.1, x.2.2.2.2.2.2.2.1, ())))) := by kernel_rfl
theorem mcs_tree : (fun x : (List (List DItem) × List Int × Int × Int × Int × Int × Unit) × McM => pieceT (mkC tys carG []) (fnOf Try.prog 12) [.bool] (mcT mcX2) mcM [mcS 0, mcS 1, mcS 2, mcS 3, mcS 4] (mkS (mcT mcX1) mcM x)) = (fun x => Tree.need ((0 : Int) ≤ x.1.2.2.2.2.1 ∧ x.1.2.2.2.2.1 < (↑(List.length x.1.1) : Int)) (Tree.need (SendPre x.2.2.1 ((1 : Int), ((1 : Int), (0 : Int)), (2 : Int), (0 : Int)) x.2.1) (Tree.need (((sendF x.2.2.1 ((1 : Int), ((1 : Int), (0 : Int)), (2 : Int), (0 : Int)) (List.getD x.1.1 (Int.toNat x.1.2.2.2.2.1) []) x.2.1).2.2 == (0 : Int)) = true → (0 : Int) ≤ x.1.2.2.2.2.1 ∧ x.1.2.2.2.2.1 < (↑(List.length x.1.1) : Int)) (Tree.need (((sendF x.2.2.1 ((1 : Int), ((1 : Int), (0 : Int)), (2 : Int), (0 : Int)) (List.getD x.1.1 (Int.toNat x.1.2.2.2.2.1) []) x.2.1).2.2 == (0 : Int)) = true → (List.length x.2.2.2.2.2.2.1 + (1 : Nat)) * (24 : Nat) ≤ (140737488355328 : Nat)) (Tree.need ((List.length x.2.2.2.2.1 + List.length (sendF x.2.2.1 ((1 : Int), ((1 : Int), (0 : Int)), (2 : Int), (0 : Int)) (List.getD x.1.1 (Int.toNat x.1.2.2.2.2.1) []) x.2.1).2.1) * (16 : Nat) ≤ (140737488355328 : Nat)) (Tree.leaf (none, some ((x.1.1, x.1.2.1, x.1.2.2.1, x.1.2.2.2.1, x.1.2.2.2.2.2.1, ()), x.2.1, (sendF x.2.2.1 ((1 : Int), ((1 : Int), (0 : Int)), (2 : Int), (0 : Int)) (List.getD x.1.1 (Int.toNat x.1.2.2.2.2.1) []) x.2.1).1, x.2.2.2.1, x.2.2.2.2.1 ++ (sendF x.2.2.1 ((1 : Int), ((1 : Int), (0 : Int)), (2 : Int), (0 : Int)) (List.getD x.1.1 (Int.toNat x.1.2.2.2.2.1) []) x.2.1).2.1, x.2.2.2.2.2.1, bif (sendF x.2.2.1 ((1 : Int), ((1 : Int), (0 : Int)), (2 : Int), (0 : Int)) (List.getD x.1.1 (Int.toNat x.1.2.2.2.2.1) []) x.2.1).2.2 == (0 : Int) then x.2.2.2.2.2.2.1 ++ [List.getD x.1.1 (Int.toNat x.1.2.2.2.2.1) []] else x.2.2.2.2.2.2.1, x.2.2.2.2.2.2.2.1, ())))))))) := by kernel_rfl
theorem mci3_tree : (fun x : (List (List DItem) × List Int × Int × Int × Int × Unit) × McM => pieceT (mkC tys [] []) (fnOf Try.prog 12) [.bool] (mcT ((15, .val (.int .i64)) :: [(103, .val .bool)])) mcM [mcI 3] (mkS (mcT mcX2) mcM x)) = (fun x => Tree.leaf (none, some ((x.1.1, x.1.2.1, x.1.2.2.1, x.1.2.2.2.1, x.1.2.2.2.2.1, decide ((↑(List.length x.2.2.2.2.1) : Int) > (0 : Int)), ()), x.2.1, x.2.2.1, x.2.2.2.1, x.2.2.2.2.1, x.2.2.2.2.2.1, x.2.2.2.2.2.2.1, x.2.2.2.2.2.2.2.1, ()))) := by kernel_rfl
theorem mch0_tree : (fun x : (List (List DItem) × List Int × Int × Int × Int × Unit) × McM => pieceT (mkC tys [] []) (fnOf Try.prog 12) [.bool] (mcT ((15, .val (.int .i64)) :: (19, .val (.int .i64)) :: [(113, .val .bool)])) mcM [mcH 0, mcH 1] (mkS (mcT mcX2) mcM x)) = (fun x => Tree.need (IntKind.wrap IntKind.u64 (↑(List.length x.2.2.2.2.1) : Int) ≠ (0 : Int)) (Tree.leaf (none, some ((x.1.1, x.1.2.1, x.1.2.2.1, x.1.2.2.2.1, x.1.2.2.2.2.1, IntKind.wrap IntKind.i64 (Int.tmod (IntKind.wrap IntKind.u64 x.1.2.2.2.2.1) (IntKind.wrap IntKind.u64 (↑(List.length x.2.2.2.2.1) : Int))), decide (bitsOp BinOp.and IntKind.i64 x.1.2.2.2.2.1 (7 : Int) > (1 : Int)), ()), x.2.1, x.2.2.1, x.2.2.2.1, x.2.2.2.2.1, x.2.2.2.2.2.1, x.2.2.2.2.2.2.1, x.2.2.2.2.2.2.2.1, ())))) := by kernel_rfl
theorem mcx_tree : (fun x : (List (List DItem) × List Int × Int × Int × Int × Int × Unit) × McM => pieceT (mkC tys carG []) (fnOf Try.prog 12) [.bool] (mcT mcX3) mcM [mcX 0, mcX 1, mcX 2, mcX 3, mcX 4, mcX 5, mcX 6] (mkS (mcT mcX3) mcM x)) = (fun x => Tree.need ((0 : Int) ≤ x.1.2.2.2.2.2.1 ∧ x.1.2.2.2.2.2.1 < (↑(List.length x.2.2.2.2.1) : Int)) (Tree.need (takePre (x.2.2.2.1.2.2.1, (toldF (List.getD x.2.2.2.2.1 (Int.toNat x.1.2.2.2.2.2.1) [])).1)) (Tree.br (bif !(toldF (List.getD x.2.2.2.2.1 (Int.toNat x.1.2.2.2.2.2.1) [])).2 then true else bif bif (hearF x.2.2.2.1 ((2 : Int), ((1 : Int), (0 : Int)), (2 : Int), (0 : Int)) (toldF (List.getD x.2.2.2.2.1 (Int.toNat x.1.2.2.2.2.2.1) [])).1).2.2.2 != (0 : Int) then (hearF x.2.2.2.1 ((2 : Int), ((1 : Int), (0 : Int)), (2 : Int), (0 : Int)) (toldF (List.getD x.2.2.2.2.1 (Int.toNat x.1.2.2.2.2.2.1) [])).1).2.2.2 != (6 : Int) else false then (hearF x.2.2.2.1 ((2 : Int), ((1 : Int), (0 : Int)), (2 : Int), (0 : Int)) (toldF (List.getD x.2.2.2.2.1 (Int.toNat x.1.2.2.2.2.2.1) [])).1).2.2.2 != (8 : Int) else false) (Tree.leaf (some false, none)) (Tree.need ((List.length x.2.2.2.2.2.2.2.1 + List.length (hearF x.2.2.2.1 ((2 : Int), ((1 : Int), (0 : Int)), (2 : Int), (0 : Int)) (toldF (List.getD x.2.2.2.2.1 (Int.toNat x.1.2.2.2.2.2.1) [])).1).2.2.1) * (24 : Nat) ≤ (140737488355328 : Nat)) (Tree.need ((List.length x.2.2.2.2.2.1 + (1 : Nat)) * (16 : Nat) ≤ (140737488355328 : Nat)) (Tree.leaf (none, some ((x.1.1, x.1.2.1, x.1.2.2.1, x.1.2.2.2.1, x.1.2.2.2.2.1, x.1.2.2.2.2.2.1, ()), x.2.1, x.2.2.1, (hearF x.2.2.2.1 ((2 : Int), ((1 : Int), (0 : Int)), (2 : Int), (0 : Int)) (toldF (List.getD x.2.2.2.2.1 (Int.toNat x.1.2.2.2.2.2.1) [])).1).1, x.2.2.2.2.1, x.2.2.2.2.2.1 ++ [(hearF x.2.2.2.1 ((2 : Int), ((1 : Int), (0 : Int)), (2 : Int), (0 : Int)) (toldF (List.getD x.2.2.2.2.1 (Int.toNat x.1.2.2.2.2.2.1) [])).1).2.1], x.2.2.2.2.2.2.1, x.2.2.2.2.2.2.2.1 ++ (hearF x.2.2.2.1 ((2 : Int), ((1 : Int), (0 : Int)), (2 : Int), (0 : Int)) (toldF (List.getD x.2.2.2.2.1 (Int.toNat x.1.2.2.2.2.2.1) [])).1).2.2.1, ())))))))) := by kernel_rfl
theorem mch3_tree : (fun x : (List (List DItem) × List Int × Int × Int × Int × Int × Unit) × McM => pieceT (mkC tys [] []) (fnOf Try.prog 12) [.bool] (mcT ((15, .val (.int .i64)) :: (19, .val (.int .i64)) :: [(155, .val .bool)])) mcM [mcH 3] (mkS (mcT mcX3) mcM x)) = (fun x => Tree.leaf (none, some ((x.1.1, x.1.2.1, x.1.2.2.1, x.1.2.2.2.1, x.1.2.2.2.2.1, x.1.2.2.2.2.2.1, bitsOp BinOp.and IntKind.i64 x.1.2.2.2.2.1 (24 : Int) != (0 : Int), ()), x.2.1, x.2.2.1, x.2.2.2.1, x.2.2.2.2.1, x.2.2.2.2.2.1, x.2.2.2.2.2.2.1, x.2.2.2.2.2.2.2.1, ()))) := by kernel_rfl
theorem mci5_tree : (fun x : (List (List DItem) × List Int × Int × Int × Int × Unit) × McM => pieceT (mkC tys [] []) (fnOf Try.prog 12) [.bool] (mcT [(173, .val .bool)]) mcM [mcI 5] (mkS (mcT mcX2) mcM x)) = (fun x => Tree.leaf (none, some ((x.1.1, x.1.2.1, x.1.2.2.1, x.1.2.2.2.1, bif decide ((↑(List.length x.2.2.2.2.2.1) : Int) > (0 : Int)) then bitsOp BinOp.and IntKind.i64 x.1.2.2.2.2.1 (32 : Int) != (0 : Int) else false, ()), x.2.1, x.2.2.1, x.2.2.2.1, x.2.2.2.2.1, x.2.2.2.2.2.1, x.2.2.2.2.2.2.1, x.2.2.2.2.2.2.2.1, ()))) := by kernel_rfl
@[reducible] def mcTb : List (Nat × Sh) := [(0, .val gPcs), (7, .ptr 7 gRules), (8, .ptr 8 gBox), (9, .ptr 9 gBox), (10, .tip 1010), (11, .nil), (12, .tip 1012), (13, .tip 1013), (65, .val (.sl (.int .i64))), (66, .val (.int .i64)), (67, .val (.int .i64))]
@[reducible] def mcMb : List (Nat × BSh) := [(7, .var gRules), (8, .var gBox), (9, .var gBox), (1010, .row 9 .str false), (1012, .row 29 (.sl gItem) false), (1013, .row 29 (.sl gItem) false)]
theorem mca_tree : (fun x : (List (List DItem) × List Int × Int × Int × Unit) × McM => pieceT (mkC tys carG []) (fnOf Try.prog 12) [.bool] mcTb mcMb [mcA 0, mcA 1, mcA 2, mcA 3] (mkS (mcT []) mcM x)) = (fun x => Tree.need ((0 : Int) ≤ IntKind.wrap IntKind.i64 ((↑(List.length x.2.2.2.2.2.1) : Int) - (1 : Int)) ∧ IntKind.wrap IntKind.i64 ((↑(List.length x.2.2.2.2.2.1) : Int) - (1 : Int)) < (↑(List.length x.2.2.2.2.2.1) : Int)) (Tree.need ((cameF (List.getD x.2.2.2.2.2.1 (Int.toNat (IntKind.wrap IntKind.i64 ((↑(List.length x.2.2.2.2.2.1) : Int) - (1 : Int)))) [])).2 = true → List.length x.2.2.1.2.1 ≤ (100000 : Nat)) (Tree.leaf (none, some ((x.1.1, x.1.2.1, x.1.2.2.1, x.1.2.2.2.1, ()), x.2.1, bif (cameF (List.getD x.2.2.2.2.2.1 (Int.toNat (IntKind.wrap IntKind.i64 ((↑(List.length x.2.2.2.2.2.1) : Int) - (1 : Int)))) [])).2 then (ackedM x.2.2.1 (cameF (List.getD x.2.2.2.2.2.1 (Int.toNat (IntKind.wrap IntKind.i64 ((↑(List.length x.2.2.2.2.2.1) : Int) - (1 : Int)))) [])).1).1 else x.2.2.1, x.2.2.2.1, x.2.2.2.2.1, x.2.2.2.2.2.2.1, x.2.2.2.2.2.2.2.1, ()))))) := by kernel_rfl
theorem mcl3_tree : (fun x : (List (List DItem) × List Int × Int × Int × Unit) × McM => pieceT (mkC tys [] []) (fnOf Try.prog 12) [.bool] (mcT []) mcM [mcL 3] (mkS (mcT []) mcM x)) = (fun x => Tree.leaf (none, some ((x.1.1, x.1.2.1, x.1.2.2.1, IntKind.wrap IntKind.i64 (x.1.2.2.2.1 + (1 : Int)), ()), x.2.1, x.2.2.1, x.2.2.2.1, x.2.2.2.2.1, x.2.2.2.2.2.1, x.2.2.2.2.2.2.1, x.2.2.2.2.2.2.2.1, ()))) := by kernel_rfl
@[reducible] def mcU (xs : List (Nat × Sh)) : List (Nat × Sh) := (8, .ptr 8 gBox) :: (9, .ptr 9 gBox) :: (12, .tip 1012) :: (13, .tip 1013) :: xs
@[reducible] def mcUM : List (Nat × BSh) := [(8, .var gBox), (9, .var gBox), (1012, .row 29 (.sl gItem) false), (1013, .row 29 (.sl gItem) false)]
abbrev McUM := DMrl × DMrl × List (List DItem) × List (List DItem) × Unit
@[reducible] def mcUi : List (Nat × Sh) := [(192, .val (.int .i64))]
@[reducible] def mcUx : List (Nat × Sh) := [(192, .val (.int .i64)), (202, .val (.sl .str)), (203, .val (.int .i64)), (204, .val (.int .i64))]
@[reducible] def mcUe : List (Nat × Sh) := [(256, .val (.int .i64)), (257, .val (.int .i64))]
noncomputable def mcV (i : Nat) : Code := rNth (loopB 4 (bodyOf (fnOf Try.prog 12))) i
noncomputable def mcVI (i : Nat) : Code := rNth (rIn (mcV 2)) i
noncomputable def mcY (i : Nat) : Code := rNth (loopB 6 (bodyOf (fnOf Try.prog 12))) i
noncomputable def mcYI (i : Nat) : Code := rNth (rIn (mcY 2)) i
theorem m40_tree : (fun x : (List (List DItem) × List Int × Int × Int × Unit) × McM => pieceT (mkC tys [] []) (fnOf Try.prog 12) [.bool] (mcU mcUi) mcUM [mcB 11] (mkS (mcT []) mcM x)) = (fun x => Tree.leaf (none, some (((0 : Int), ()), x.2.2.1, x.2.2.2.1, x.2.2.2.2.2.2.1, x.2.2.2.2.2.2.2.1, ()))) := by kernel_rfl
theorem mcv0_tree : (fun x : (Int × Unit) × McUM => pieceT (mkC tys [] []) (fnOf Try.prog 12) [.bool] (mcU ((192, .val (.int .i64)) :: [(193, .val .bool)])) mcUM [mcV 0] (mkS (mcU mcUi) mcUM x)) = (fun x => Tree.leaf (none, some ((x.1.1, decide (x.1.1 < (30 : Int)), ()), x.2.1, x.2.2.1, x.2.2.2.1, x.2.2.2.2.1, ()))) := by kernel_rfl
theorem mcvi_tree : (fun x : (Int × Unit) × McUM => pieceT (mkC tys carG []) (fnOf Try.prog 12) [.bool] (mcU mcUx) mcUM [mcVI 0, mcVI 1, mcVI 2] (mkS (mcU mcUi) mcUM x)) = (fun x => Tree.need (List.length x.2.1.2.1 ≤ (100000 : Nat)) (Tree.leaf (none, some ((x.1.1, (tickM x.2.1 ((2 : Int), (8 : Int), (1 : Int), (10000 : Int))).2.1, (↑(List.length (tickM x.2.1 ((2 : Int), (8 : Int), (1 : Int), (10000 : Int))).2.1) : Int), (0 : Int), ()), (tickM x.2.1 ((2 : Int), (8 : Int), (1 : Int), (10000 : Int))).1, x.2.2.1, x.2.2.2.1, x.2.2.2.2.1, ())))) := by kernel_rfl
theorem mcy0_tree : (fun x : (Int × List (List UInt8) × Int × Int × Unit) × McUM => pieceT (mkC tys [] []) (fnOf Try.prog 12) [.bool] (mcU ((192, .val (.int .i64)) :: (202, .val (.sl .str)) :: (203, .val (.int .i64)) :: (204, .val (.int .i64)) :: [(205, .val .bool)])) mcUM [mcY 0] (mkS (mcU mcUx) mcUM x)) = (fun x => Tree.leaf (none, some ((x.1.1, x.1.2.1, x.1.2.2.1, x.1.2.2.2.1, decide (x.1.2.2.2.1 < x.1.2.2.1), ()), x.2.1, x.2.2.1, x.2.2.2.1, x.2.2.2.2.1, ()))) := by kernel_rfl
theorem mcyi_tree : (fun x : (Int × List (List UInt8) × Int × Int × Unit) × McUM => pieceT (mkC tys carG []) (fnOf Try.prog 12) [.bool] (mcU mcUx) mcUM [mcYI 0, mcYI 1, mcYI 2, mcYI 3, mcYI 4, mcYI 5, mcYI 6, mcYI 7, mcYI 8, mcYI 9] (mkS (mcU mcUx) mcUM x)) = (fun x => Tree.need ((0 : Int) ≤ x.1.2.2.2.1 ∧ x.1.2.2.2.1 < (↑(List.length x.1.2.1) : Int)) (Tree.need (takePre (x.2.2.1.2.2.1, (toldF (List.getD x.1.2.1 (Int.toNat x.1.2.2.2.1) [])).1)) (Tree.br (bif !(toldF (List.getD x.1.2.1 (Int.toNat x.1.2.2.2.1) [])).2 then true else bif (hearF x.2.2.1 ((2 : Int), ((1 : Int), (0 : Int)), (2 : Int), (0 : Int)) (toldF (List.getD x.1.2.1 (Int.toNat x.1.2.2.2.1) [])).1).2.2.2 != (0 : Int) then (hearF x.2.2.1 ((2 : Int), ((1 : Int), (0 : Int)), (2 : Int), (0 : Int)) (toldF (List.getD x.1.2.1 (Int.toNat x.1.2.2.2.1) [])).1).2.2.2 != (6 : Int) else false) (Tree.leaf (some false, none)) (Tree.need ((List.length x.2.2.2.2.1 + List.length (hearF x.2.2.1 ((2 : Int), ((1 : Int), (0 : Int)), (2 : Int), (0 : Int)) (toldF (List.getD x.1.2.1 (Int.toNat x.1.2.2.2.1) [])).1).2.2.1) * (24 : Nat) ≤ (140737488355328 : Nat)) (Tree.need ((cameF (hearF x.2.2.1 ((2 : Int), ((1 : Int), (0 : Int)), (2 : Int), (0 : Int)) (toldF (List.getD x.1.2.1 (Int.toNat x.1.2.2.2.1) [])).1).2.1).2 = true → List.length x.2.1.2.1 ≤ (100000 : Nat)) (Tree.leaf (none, some ((x.1.1, x.1.2.1, x.1.2.2.1, x.1.2.2.2.1, ()), bif (cameF (hearF x.2.2.1 ((2 : Int), ((1 : Int), (0 : Int)), (2 : Int), (0 : Int)) (toldF (List.getD x.1.2.1 (Int.toNat x.1.2.2.2.1) [])).1).2.1).2 then (ackedM x.2.1 (cameF (hearF x.2.2.1 ((2 : Int), ((1 : Int), (0 : Int)), (2 : Int), (0 : Int)) (toldF (List.getD x.1.2.1 (Int.toNat x.1.2.2.2.1) [])).1).2.1).1).1 else x.2.1, (hearF x.2.2.1 ((2 : Int), ((1 : Int), (0 : Int)), (2 : Int), (0 : Int)) (toldF (List.getD x.1.2.1 (Int.toNat x.1.2.2.2.1) [])).1).1, x.2.2.2.1, x.2.2.2.2.1 ++ (hearF x.2.2.1 ((2 : Int), ((1 : Int), (0 : Int)), (2 : Int), (0 : Int)) (toldF (List.getD x.1.2.1 (Int.toNat x.1.2.2.2.1) [])).1).2.2.1, ())))))))) := by kernel_rfl
theorem mcy3_tree : (fun x : (Int × List (List UInt8) × Int × Int × Unit) × McUM => pieceT (mkC tys [] []) (fnOf Try.prog 12) [.bool] (mcU mcUx) mcUM [mcY 3] (mkS (mcU mcUx) mcUM x)) = (fun x => Tree.leaf (none, some ((x.1.1, x.1.2.1, x.1.2.2.1, IntKind.wrap IntKind.i64 (x.1.2.2.2.1 + (1 : Int)), ()), x.2.1, x.2.2.1, x.2.2.2.1, x.2.2.2.2.1, ()))) := by kernel_rfl
theorem mcv3_tree : (fun x : (Int × List (List UInt8) × Int × Int × Unit) × McUM => pieceT (mkC tys [] []) (fnOf Try.prog 12) [.bool] (mcU mcUi) mcUM [mcV 3] (mkS (mcU mcUx) mcUM x)) = (fun x => Tree.leaf (none, some ((IntKind.wrap IntKind.i64 (x.1.1 + (1 : Int)), ()), x.2.1, x.2.2.1, x.2.2.2.1, x.2.2.2.2.1, ()))) := by kernel_rfl
theorem m13_tree : (fun x : (Int × Unit) × McUM => pieceT (mkC tys [] []) (fnOf Try.prog 12) [.bool] (mcU mcUe) mcUM [mcB 13, mcB 14, mcB 15] (mkS (mcU mcUi) mcUM x)) = (fun x => Tree.br ((↑(List.length x.2.2.2.2.1) : Int) != (↑(List.length x.2.2.2.1) : Int)) (Tree.leaf (some false, none)) (Tree.leaf (none, some (((↑(List.length x.2.2.2.2.1) : Int), (0 : Int), ()), x.2.1, x.2.2.1, x.2.2.2.1, x.2.2.2.2.1, ())))) := by kernel_rfl
abbrev M8S := (Int × Int × Unit) × McUM
def m8Pre (x : M8S) : Prop := x.2.2.2.2.1 = x.2.2.2.1 ∧ 0 ≤ x.1.2.1 ∧ x.1.2.1 ≤ x.1.1 ∧ x.1.1 = x.2.2.2.2.1.length ∧ x.1.1 ≤ 100000
def m8D : LoopD where
  prom := []
  ts := mcU mcUe
  bs := mcUM
  pre := fun (x : M8S) => m8Pre x
  out := fun (x : M8S) => .leaf (.exit 8, ((x.1.1, x.1.1, ()), x.2))
theorem m8_round : (fun x : M8S => roundOf (mkC tys carG [(8, m8D.spec)]) m8D (loopB 8 (bodyOf (fnOf Try.prog 12))) x) = (fun x => Tree.br (decide (x.1.2.1 < x.1.1)) (Tree.need ((0 : Int) ≤ x.1.2.1 ∧ x.1.2.1 < (↑(List.length x.2.2.2.2.1) : Int)) (Tree.need ((0 : Int) ≤ x.1.2.1 ∧ x.1.2.1 < (↑(List.length x.2.2.2.1) : Int)) (Tree.need (itemsP (List.getD x.2.2.2.2.1 (Int.toNat x.1.2.1) [], List.getD x.2.2.2.1 (Int.toNat x.1.2.1) [])) (Tree.br (!true) (Tree.leaf (Ex.ret, some ((x.1.1, x.1.2.1, ()), x.2.1, x.2.2.1, x.2.2.2.1, x.2.2.2.2.1, ()))) (Tree.leaf (Ex.normal, some ((x.1.1, IntKind.wrap IntKind.i64 (x.1.2.1 + (1 : Int)), ()), x.2.1, x.2.2.1, x.2.2.2.1, x.2.2.2.2.1, ()))))))) (Tree.leaf (Ex.exit (8 : Nat), some ((x.1.1, x.1.2.1, ()), x.2.1, x.2.2.1, x.2.2.2.1, x.2.2.2.2.1, ())))) := by kernel_rfl
theorem m16_tree : (fun x : M8S => pieceT (mkC tys carG [(8, m8D.spec)]) (fnOf Try.prog 12) [.bool] [] [] [mcB 16, mcB 17, mcB 18] (mkS (mcU mcUe) mcUM x)) = (fun x => Tree.need (m8Pre ((x.1.1, x.1.2.1, PUnit.unit), x.2.1, x.2.2.1, x.2.2.2.1, x.2.2.2.2.1, PUnit.unit)) (Tree.leaf (some (bif bif idleF x.2.1 then idleF x.2.2.1 else false then true else false), none))) := by kernel_rfl
abbrev M0S := (List (List DItem) × List Int × Bool × List (List DItem) × Int × Int × Unit) × Unit
def m0Pre (x : M0S) : Prop := 0 ≤ x.1.2.2.2.2.2.1 ∧ x.1.2.2.2.2.2.1 ≤ x.1.2.2.2.2.1 ∧ x.1.2.2.2.2.1 = x.1.2.2.2.1.length ∧ x.1.2.2.2.2.1 ≤ 100000
def m0Stp (x : M0S) : Ex × M0S :=
  bif decide (x.1.2.2.2.2.2.1 < x.1.2.2.2.2.1) then
    bif decide (((x.1.2.2.2.1.getD x.1.2.2.2.2.2.1.toNat []).length : Int) > 20) then (.ret, ((x.1.1, x.1.2.1, true, x.1.2.2.2), ()))
    else (.normal, ((x.1.1, x.1.2.1, x.1.2.2.1, x.1.2.2.2.1, x.1.2.2.2.2.1, x.1.2.2.2.2.2.1 + 1, ()), ()))
  else (.exit 0, x)
def m0Mu (x : M0S) : Nat := (x.1.2.2.2.2.1 - x.1.2.2.2.2.2.1).toNat
def m0D : LoopD where
  prom := []
  ts := [(0, .val gPcs), (1, .val (.sl (.int .i64))), (4, .val .bool), (51, .val gPcs), (52, .val (.int .i64)), (53, .val (.int .i64))]
  bs := []
  pre := fun (x : M0S) => m0Pre x
  out := fun (x : M0S) => out2 0 (runF m0Stp (m0Mu x + 1) x)
theorem m0_round : (fun x : M0S => roundOf (mkC tys carG [(0, m0D.spec)]) m0D (loopB 0 (bodyOf (fnOf Try.prog 12))) x) = (fun x => Tree.br (decide (x.1.2.2.2.2.2.1 < x.1.2.2.2.2.1)) (Tree.need ((0 : Int) ≤ x.1.2.2.2.2.2.1 ∧ x.1.2.2.2.2.2.1 < (↑(List.length x.1.2.2.2.1) : Int)) (Tree.br (decide ((↑(List.length (List.getD x.1.2.2.2.1 (Int.toNat x.1.2.2.2.2.2.1) [])) : Int) > (20 : Int))) (Tree.leaf (Ex.ret, some ((x.1.1, x.1.2.1, true, x.1.2.2.2.1, x.1.2.2.2.2.1, x.1.2.2.2.2.2.1, ()), ()))) (Tree.leaf (Ex.normal, some ((x.1.1, x.1.2.1, x.1.2.2.1, x.1.2.2.2.1, x.1.2.2.2.2.1, IntKind.wrap IntKind.i64 (x.1.2.2.2.2.2.1 + (1 : Int)), ()), ()))))) (Tree.leaf (Ex.exit (0 : Nat), some ((x.1.1, x.1.2.1, x.1.2.2.1, x.1.2.2.2.1, x.1.2.2.2.2.1, x.1.2.2.2.2.2.1, ()), ())))) := by kernel_rfl
@[reducible] def mcTn : List (Nat × Sh) := [(0, .val gPcs), (7, .ptr 7 gRules), (8, .ptr 8 gBox), (9, .ptr 9 gBox), (10, .nil), (11, .nil), (12, .nil), (13, .nil), (65, .val (.sl (.int .i64))), (66, .val (.int .i64)), (67, .val (.int .i64))]
@[reducible] def mcMn : List (Nat × BSh) := [(7, .var gRules), (8, .var gBox), (9, .var gBox)]
theorem m00_tree : (fun x : List (List DItem) × List Int => pieceT (mkC tys carG [(0, m0D.spec)]) (fnOf Try.prog 12) [.bool] mcTn mcMn [mcB 0, mcB 1, mcB 2, mcB 3, mcB 4, mcB 5, mcB 6, mcB 7, mcB 8, mcB 9] { tmps := number 0 (resL [gPcs, .sl (.int .i64)] x), boxes := [] }) = (fun x => Tree.br (bif decide ((↑(List.length x.1) : Int) > (20 : Int)) then true else decide ((↑(List.length x.2) : Int) > (60 : Int))) (Tree.leaf (some true, none)) (Tree.need (m0Pre ((x.1, x.2, false, x.1, (↑(List.length x.1) : Int), (0 : Int), PUnit.unit), PUnit.unit)) (Tree.br (isRet (runF m0Stp (m0Mu ((x.1, x.2, false, x.1, (↑(List.length x.1) : Int), (0 : Int), PUnit.unit), PUnit.unit) + (1 : Nat)) ((x.1, x.2, false, x.1, (↑(List.length x.1) : Int), (0 : Int), PUnit.unit), PUnit.unit)).1) (Tree.leaf (some (runF m0Stp (m0Mu ((x.1, x.2, false, x.1, (↑(List.length x.1) : Int), (0 : Int), PUnit.unit), PUnit.unit) + (1 : Nat)) ((x.1, x.2, false, x.1, (↑(List.length x.1) : Int), (0 : Int), PUnit.unit), PUnit.unit)).2.1.2.2.1, none)) (Tree.leaf (none, some (((runF m0Stp (m0Mu ((x.1, x.2, false, x.1, (↑(List.length x.1) : Int), (0 : Int), PUnit.unit), PUnit.unit) + (1 : Nat)) ((x.1, x.2, false, x.1, (↑(List.length x.1) : Int), (0 : Int), PUnit.unit), PUnit.unit)).2.1.1, (runF m0Stp (m0Mu ((x.1, x.2, false, x.1, (↑(List.length x.1) : Int), (0 : Int), PUnit.unit), PUnit.unit) + (1 : Nat)) ((x.1, x.2, false, x.1, (↑(List.length x.1) : Int), (0 : Int), PUnit.unit), PUnit.unit)).2.1.2.1, (↑(List.length (runF m0Stp (m0Mu ((x.1, x.2, false, x.1, (↑(List.length x.1) : Int), (0 : Int), PUnit.unit), PUnit.unit) + (1 : Nat)) ((x.1, x.2, false, x.1, (↑(List.length x.1) : Int), (0 : Int), PUnit.unit), PUnit.unit)).2.1.2.1) : Int), (0 : Int), ()), ((2 : Int), (8 : Int), (2 : Int), (9 : Int)), ((0 : Int), [], ((0 : Int), []), []), ((0 : Int), [], ((0 : Int), []), []), ())))))) := by kernel_rfl
end Go.Ev.P
/- All comes: a frame is lost. -/
set_option linter.unusedVariables false
set_option linter.unusedSimpArgs false
namespace Go.Ev.P
open Go.Proofs Go.Conc
@[reducible] def mcTw (xs : List (Nat × Sh)) : List (Nat × Sh) := (0, .val gPcs) :: (7, .ptr 7 gRules) :: (8, .ptr 8 gBox) :: (9, .ptr 9 gBox) :: (10, .val (.sl .str)) :: (11, .tip 1011) :: (12, .tip 1012) :: (13, .tip 1013) :: (65, .val (.sl (.int .i64))) :: (66, .val (.int .i64)) :: (67, .val (.int .i64)) :: (15, .val (.int .i64)) :: (19, .val (.int .i64)) :: xs
@[reducible] def mcMw : List (Nat × BSh) := [(7, .var gRules), (8, .var gBox), (9, .var gBox), (1011, .row 9 .str false), (1012, .row 29 (.sl gItem) false), (1013, .row 29 (.sl gItem) false)]
@[reducible] def mcMv : List (Nat × BSh) := [(7, .var gRules), (8, .var gBox), (9, .var gBox), (1011, .row 9 .str false), (1012, .row 29 (.sl gItem) false), (1013, .row 29 (.sl gItem) false), (156, .row 9 .str false)]
abbrev McWT := List (List DItem) × List (List UInt8) × List Int × Int × Int × Int × Int × Unit
abbrev McWM := DRules × DMrl × DMrl × List (List UInt8) × List (List DItem) × List (List DItem) × Unit
abbrev McW := McWT × McWM
def wK (x : McW) : Int := x.1.2.2.2.2.2.2.1
def wL (x : McW) : List (List UInt8) := x.1.2.1.take (wK x).toNat
def wR (x : McW) : List (List UInt8) := x.1.2.1.drop (IntKind.i64.wrap (wK x + 1)).toNat
def wT (x : McW) : Nat → List (Nat × AV)
  | 0 => []
  | 1 => [(156, .tip 156)]
  | 2 => [(159, .val (.sl .str) (wL x))]
  | 3 => [(156, .tip 156), (159, .val (.sl .str) (wL x))]
  | _ => [(160, .tip 156)]
def wB (x : McW) : Nat → Bxs
  | 0 => []
  | 1 => [(156, false, .row 9 .str [] false)]
  | 2 => []
  | 3 => [(156, false, .row 9 .str [] false)]
  | _ => [(156, false, .row 9 .str ([] ++ wL x) false)]
def wQ (x : McW) : Bool → List (Nat × AV)
  | false => []
  | true => [(164, .val (.sl .str) (wR x))]
def wS (x : McW) (c : Nat) (q8 : Bool) : St := { tmps := (mkS (mcTw []) mcMw x).tmps ++ (wT x c ++ wQ x q8), boxes := (mkS (mcTw []) mcMw x).boxes ++ wB x c }
def wKeep (c : Nat) (q8 : Bool) : LoopSpec := { prom := [], keep := (mcTw []).map (·.1) ++ ((match c with | 0 => [] | 1 => [156] | 2 => [159] | 3 => [156, 159] | _ => [160]) ++ (match q8 with | false => [] | true => [164])), boxes := mcMw.map (·.1) ++ (match c with | 0 => [] | 1 => [156] | 2 => [] | _ => [156]), sum := fun _ => .stuck }
noncomputable abbrev wOp (i : Nat) : Oper := rOp (mcW 0) i
theorem w_1 : mcW 0 = .region 33 (rOps (mcW 0)) true := by kernel_rfl
def wE0 : Eff := ⟨.tip 156, [(156, true, .row 9 .str (List.replicate 0 []) false)], none⟩
theorem w_e0 (s : St) : opEff tys (fun f => lk f []) ((wOp 0).dst.getD 0) (wOp 0) (s.args (wOp 0)) = some wE0 := by kernel_rfl
def wE3 (x : McW) : Eff := ⟨.val (.sl .str) (wL x), [], some (0 ≤ wK x ∧ wK x ≤ (x.1.2.1.length : Int))⟩
def wE4 (x : McW) : Eff := ⟨.tip 156, [(156, true, .row 9 .str ([] ++ wL x) false)], some ((([] : List (List UInt8)).length + (wL x).length) * 16 ≤ maxRow)⟩
def wE7 (x : McW) : Eff := ⟨.val (.int .i64) (IntKind.i64.wrap (wK x + 1)), [], none⟩
def wE8 (x : McW) : Eff := ⟨.val (.sl .str) (wR x), [], some (0 ≤ IntKind.i64.wrap (wK x + 1) ∧ IntKind.i64.wrap (wK x + 1) ≤ (x.1.2.1.length : Int))⟩
def wE9 (x : McW) : Eff := ⟨.tip 156, [(156, true, .row 9 .str (([] ++ wL x) ++ wR x) false)], some ((([] ++ wL x : List (List UInt8)).length + (wR x).length) * 16 ≤ maxRow)⟩
def wS3 (x : McW) (c : Nat) (q8 : Bool) : St := ((wS x c q8).put 157 (.val (.sl .str) x.1.2.1)).put 158 (.val (.int .i64) (wK x))
def wS7 (x : McW) (c : Nat) (q8 : Bool) : St := (wS x c q8).put 162 (.val (.int .i64) (wK x))
def wS8 (x : McW) (c : Nat) : St := ((wS x c false).put 161 (.val (.sl .str) x.1.2.1)).put 163 (.val (.int .i64) (IntKind.i64.wrap (wK x + 1)))
def wS9 (x : McW) : St := { tmps := (mkS (mcTw []) mcMw x).tmps ++ [(165, .tip 156)], boxes := (mkS (mcTw []) mcMw x).boxes ++ [(156, false, .row 9 .str (([] ++ wL x) ++ wR x) false)] }
theorem w_undef (x : McW) : ∀ (c : Nat) (q8 : Bool), c ≤ 4 → ((wS x c q8).look 157 = .undef ∧ (wS x c q8).look 158 = .undef ∧ (wS x c q8).look 161 = .undef ∧ (wS x c q8).look 162 = .undef)
  | 0, false, _ | 0, true, _ | 1, false, _ | 1, true, _ | 2, false, _ | 2, true, _ | 3, false, _ | 3, true, _ | 4, false, _ | 4, true, _ => ⟨by kernel_rfl, by kernel_rfl, by kernel_rfl, by kernel_rfl⟩
  | c + 5, q8, h => by omega
theorem w_10 (x : McW) : ∀ (c : Nat) (q8 : Bool), c ≤ 4 → ((wS x c q8).look 10 = .val (.sl .str) x.1.2.1 ∧ (wS x c q8).look 19 = .val (.int .i64) (wK x))
  | 0, false, _ | 0, true, _ | 1, false, _ | 1, true, _ | 2, false, _ | 2, true, _ | 3, false, _ | 3, true, _ | 4, false, _ | 4, true, _ => ⟨by kernel_rfl, by kernel_rfl⟩
  | c + 5, q8, h => by omega
theorem w_e7 (x : McW) : ∀ (c : Nat) (q8 : Bool), c ≤ 4 → opEff tys (fun f => lk f []) ((wOp 7).dst.getD 0) (wOp 7) ((wS7 x c q8).args (wOp 7)) = some (wE7 x)
  | 0, false, _ | 0, true, _ | 1, false, _ | 1, true, _ | 2, false, _ | 2, true, _ | 3, false, _ | 3, true, _ | 4, false, _ | 4, true, _ => by kernel_rfl
  | c + 5, q8, h => by omega
theorem w_l7 (x : McW) : ∀ (c : Nat) (q8 : Bool), c ≤ 4 → ((wS7 x c q8).after (wOp 7) (wE7 x)).look 163 = .val (.int .i64) (IntKind.i64.wrap (wK x + 1))
  | 0, false, _ | 0, true, _ | 1, false, _ | 1, true, _ | 2, false, _ | 2, true, _ | 3, false, _ | 3, true, _ | 4, false, _ | 4, true, _ => by kernel_rfl
  | c + 5, q8, h => by omega
theorem w_r7 (x : McW) : ∀ (c : Nat) (q8 : Bool), c ≤ 4 → restrict (wKeep c q8) ((wS7 x c q8).after (wOp 7) (wE7 x)) = some (wS x c q8)
  | 0, false, _ | 0, true, _ | 1, false, _ | 1, true, _ | 2, false, _ | 2, true, _ | 3, false, _ | 3, true, _ | 4, false, _ | 4, true, _ => by kernel_rfl
  | c + 5, q8, h => by omega
theorem w_e8_0 (x : McW) : opEff tys (fun f => lk f []) ((wOp 8).dst.getD 0) (wOp 8) ((wS8 x 0).args (wOp 8)) = some (wE8 x) := by kernel_rfl
theorem w_r8_0 (x : McW) : restrict (wKeep 0 true) ((wS8 x 0).after (wOp 8) (wE8 x)) = some (wS x 0 true) := by kernel_rfl
theorem w_e8_1 (x : McW) : opEff tys (fun f => lk f []) ((wOp 8).dst.getD 0) (wOp 8) ((wS8 x 1).args (wOp 8)) = some (wE8 x) := by kernel_rfl
theorem w_r8_1 (x : McW) : restrict (wKeep 1 true) ((wS8 x 1).after (wOp 8) (wE8 x)) = some (wS x 1 true) := by kernel_rfl
theorem w_e8_2 (x : McW) : opEff tys (fun f => lk f []) ((wOp 8).dst.getD 0) (wOp 8) ((wS8 x 2).args (wOp 8)) = some (wE8 x) := by kernel_rfl
theorem w_r8_2 (x : McW) : restrict (wKeep 2 true) ((wS8 x 2).after (wOp 8) (wE8 x)) = some (wS x 2 true) := by kernel_rfl
theorem w_e8_3 (x : McW) : opEff tys (fun f => lk f []) ((wOp 8).dst.getD 0) (wOp 8) ((wS8 x 3).args (wOp 8)) = some (wE8 x) := by kernel_rfl
theorem w_r8_3 (x : McW) : restrict (wKeep 3 true) ((wS8 x 3).after (wOp 8) (wE8 x)) = some (wS x 3 true) := by kernel_rfl
theorem w_e8_4 (x : McW) : opEff tys (fun f => lk f []) ((wOp 8).dst.getD 0) (wOp 8) ((wS8 x 4).args (wOp 8)) = some (wE8 x) := by kernel_rfl
theorem w_r8_4 (x : McW) : restrict (wKeep 4 true) ((wS8 x 4).after (wOp 8) (wE8 x)) = some (wS x 4 true) := by kernel_rfl
theorem w_r0_0_false (x : McW) : restrict (wKeep 1 false) ((wS x 0 false).after (wOp 0) wE0) = some (wS x 1 false) := by kernel_rfl
theorem w_r0_0_true (x : McW) : restrict (wKeep 1 true) ((wS x 0 true).after (wOp 0) wE0) = some (wS x 1 true) := by kernel_rfl
theorem w_r0_2_false (x : McW) : restrict (wKeep 3 false) ((wS x 2 false).after (wOp 0) wE0) = some (wS x 3 false) := by kernel_rfl
theorem w_r0_2_true (x : McW) : restrict (wKeep 3 true) ((wS x 2 true).after (wOp 0) wE0) = some (wS x 3 true) := by kernel_rfl
theorem w_e3_0_false (x : McW) : opEff tys (fun f => lk f []) ((wOp 3).dst.getD 0) (wOp 3) ((wS3 x 0 false).args (wOp 3)) = some (wE3 x) := by kernel_rfl
theorem w_e3_0_true (x : McW) : opEff tys (fun f => lk f []) ((wOp 3).dst.getD 0) (wOp 3) ((wS3 x 0 true).args (wOp 3)) = some (wE3 x) := by kernel_rfl
theorem w_e3_1_false (x : McW) : opEff tys (fun f => lk f []) ((wOp 3).dst.getD 0) (wOp 3) ((wS3 x 1 false).args (wOp 3)) = some (wE3 x) := by kernel_rfl
theorem w_e3_1_true (x : McW) : opEff tys (fun f => lk f []) ((wOp 3).dst.getD 0) (wOp 3) ((wS3 x 1 true).args (wOp 3)) = some (wE3 x) := by kernel_rfl
theorem w_r3_0_false (x : McW) : restrict (wKeep 2 false) ((wS3 x 0 false).after (wOp 3) (wE3 x)) = some (wS x 2 false) := by kernel_rfl
theorem w_r3_0_true (x : McW) : restrict (wKeep 2 true) ((wS3 x 0 true).after (wOp 3) (wE3 x)) = some (wS x 2 true) := by kernel_rfl
theorem w_r3_1_false (x : McW) : restrict (wKeep 3 false) ((wS3 x 1 false).after (wOp 3) (wE3 x)) = some (wS x 3 false) := by kernel_rfl
theorem w_r3_1_true (x : McW) : restrict (wKeep 3 true) ((wS3 x 1 true).after (wOp 3) (wE3 x)) = some (wS x 3 true) := by kernel_rfl
theorem w_e4_3_false (x : McW) : opEff tys (fun f => lk f []) ((wOp 4).dst.getD 0) (wOp 4) ((wS x 3 false).args (wOp 4)) = some (wE4 x) := by kernel_rfl
theorem w_e4_3_true (x : McW) : opEff tys (fun f => lk f []) ((wOp 4).dst.getD 0) (wOp 4) ((wS x 3 true).args (wOp 4)) = some (wE4 x) := by kernel_rfl
theorem w_r4_3_false (x : McW) : restrict (wKeep 4 false) ((wS x 3 false).after (wOp 4) (wE4 x)) = some (wS x 4 false) := by kernel_rfl
theorem w_r4_3_true (x : McW) : restrict (wKeep 4 true) ((wS x 3 true).after (wOp 4) (wE4 x)) = some (wS x 4 true) := by kernel_rfl
theorem w_e9 (x : McW) : opEff tys (fun f => lk f []) ((wOp 9).dst.getD 0) (wOp 9) ((wS x 4 true).args (wOp 9)) = some (wE9 x) := by kernel_rfl
theorem w_r9 (x : McW) : restrict { prom := [], keep := (mcTw []).map (·.1) ++ [165], boxes := mcMw.map (·.1) ++ [156], sum := fun _ => .stuck } ((wS x 4 true).after (wOp 9) (wE9 x)) = some (wS9 x) := by kernel_rfl
theorem w_e10 (x : McW) : opEff tys (fun f => lk f []) ((wOp 10).dst.getD 0) (wOp 10) ((wS9 x).args (wOp 10)) = some ⟨.tip 156, [], none⟩ := by kernel_rfl
@[reducible] def mcTz (xs : List (Nat × Sh)) : List (Nat × Sh) := (0, .val gPcs) :: (7, .ptr 7 gRules) :: (8, .ptr 8 gBox) :: (9, .ptr 9 gBox) :: (10, .tip 156) :: (11, .tip 1011) :: (12, .tip 1012) :: (13, .tip 1013) :: (65, .val (.sl (.int .i64))) :: (66, .val (.int .i64)) :: (67, .val (.int .i64)) :: (15, .val (.int .i64)) :: (19, .val (.int .i64)) :: xs
def wEnd (x : McW) : St := mkS (mcTz []) mcMv ((x.1.1, x.1.2.2), (x.2.1, x.2.2.1, x.2.2.2.1, x.2.2.2.2.1, x.2.2.2.2.2.1, x.2.2.2.2.2.2.1, ([] ++ wL x) ++ wR x, ()))
theorem w_r10 (x : McW) : restrict { prom := [], keep := (mcTz []).map (·.1), boxes := mcMv.map (·.1), sum := fun _ => .stuck } ((wS9 x).after (wOp 10) ⟨.tip 156, [], none⟩) = some (wEnd x) := by kernel_rfl
def wA (c : Nat) (p1 p2 q5 q6 q7 q8 : Bool) : Array Bool := match c with
  | 0 => #[false, p1, p2, false, false, q5, q6, q7, q8, false, false]
  | 1 => #[true, p1, p2, false, false, q5, q6, q7, q8, false, false]
  | 2 => #[false, p1, p2, true, false, q5, q6, q7, q8, false, false]
  | 3 => #[true, p1, p2, true, false, q5, q6, q7, q8, false, false]
  | _ => #[true, p1, p2, true, true, q5, q6, q7, q8, false, false]
def nx (b : Bool) (i : Nat) : List Nat := match b with | true => [i] | false => []
def wN (c : Nat) (p1 p2 q5 q6 q7 q8 : Bool) : List Nat := nx (Nat.beq c 0 || Nat.beq c 2) 0 ++ (nx (!p1) 1 ++ (nx (!p2) 2 ++ (nx ((Nat.beq c 0 || Nat.beq c 1) && p1 && p2) 3 ++ (nx (Nat.beq c 3) 4 ++ (nx (!q5) 5 ++ (nx (!q6) 6 ++ (nx (q6 && !q7) 7 ++ (nx (q5 && q7 && !q8) 8 ++ nx (Nat.beq c 4 && q8) 9))))))))
theorem mem_nx {i j : Nat} {b : Bool} : i ∈ nx b j ↔ b = true ∧ i = j := by cases b <;> simp [nx]
theorem w_ready_0 : ∀ (p1 p2 q5 q6 q7 q8 : Bool), Region.ready .any (rOps (mcW 0)) (wA 0 p1 p2 q5 q6 q7 q8) = wN 0 p1 p2 q5 q6 q7 q8 := by
  intro p1 p2 q5 q6 q7 q8
  cases p1 <;> cases p2 <;> cases q5 <;> cases q6 <;> cases q7 <;> cases q8 <;> kernel_rfl
theorem w_ready_1 : ∀ (p1 p2 q5 q6 q7 q8 : Bool), Region.ready .any (rOps (mcW 0)) (wA 1 p1 p2 q5 q6 q7 q8) = wN 1 p1 p2 q5 q6 q7 q8 := by
  intro p1 p2 q5 q6 q7 q8
  cases p1 <;> cases p2 <;> cases q5 <;> cases q6 <;> cases q7 <;> cases q8 <;> kernel_rfl
theorem w_ready_2 : ∀ (p1 p2 q5 q6 q7 q8 : Bool), Region.ready .any (rOps (mcW 0)) (wA 2 p1 p2 q5 q6 q7 q8) = wN 2 p1 p2 q5 q6 q7 q8 := by
  intro p1 p2 q5 q6 q7 q8
  cases p1 <;> cases p2 <;> cases q5 <;> cases q6 <;> cases q7 <;> cases q8 <;> kernel_rfl
theorem w_ready_3 : ∀ (p1 p2 q5 q6 q7 q8 : Bool), Region.ready .any (rOps (mcW 0)) (wA 3 p1 p2 q5 q6 q7 q8) = wN 3 p1 p2 q5 q6 q7 q8 := by
  intro p1 p2 q5 q6 q7 q8
  cases p1 <;> cases p2 <;> cases q5 <;> cases q6 <;> cases q7 <;> cases q8 <;> kernel_rfl
theorem w_ready_4 : ∀ (p1 p2 q5 q6 q7 q8 : Bool), Region.ready .any (rOps (mcW 0)) (wA 4 p1 p2 q5 q6 q7 q8) = wN 4 p1 p2 q5 q6 q7 q8 := by
  intro p1 p2 q5 q6 q7 q8
  cases p1 <;> cases p2 <;> cases q5 <;> cases q6 <;> cases q7 <;> cases q8 <;> kernel_rfl
theorem w_ready_nine : Region.ready .any (rOps (mcW 0)) #[true, true, true, true, true, true, true, true, true, true, false] = [10] := by kernel_rfl
theorem w_ready_ten : Region.ready .any (rOps (mcW 0)) #[true, true, true, true, true, true, true, true, true, true, true] = [] := by kernel_rfl
end Go.Ev.P
