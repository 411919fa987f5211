/- What is heard. -/
import Derived.Test.YtfahhljpjdoagaaGreatTextLinkMeets10

set_option linter.unusedVariables false
set_option linter.unusedSimpArgs false
namespace Go.Ev.Z
open Go.Proofs
def hearG : List (Nat × Ctr) := [(61, wtakeC), (62, gatherC), (63, wbitsC), (64, fackC)]
theorem hearG_ok : CtrsOK Tryz.prog (fun f => lk f hearG) := (ctrs_cons wtake_ok (ctrs_cons gather_ok (ctrs_cons wbits_ok (ctrs_cons fack_ok ctrs_nil))))
abbrev HrS := (List UInt8 × Int × Int × List DPart × Int × Int × Unit) × (DMrl × DHello × DMrl × DMrl × List (List DItem) × Unit)
def hrPre (x : HrS) : Prop := 0 ≤ x.1.2.2.2.2.2.1 ∧ x.1.2.2.2.2.2.1 ≤ x.1.2.2.2.2.1 ∧ x.1.2.2.2.2.1 = x.1.2.2.2.1.length ∧ x.1.2.2.2.2.1 ≤ 100000 ∧ (x.2.2.2.2.2.1.length : Int) ≤ x.1.2.2.2.2.2.1
def hrG (x : HrS) : List DItem × List DItem × Bool × Int := gatherF x.2.2.2.2.1.2.2.2 (x.1.2.2.2.1.getD x.1.2.2.2.2.2.1.toNat part0)
def hrStp (x : HrS) : Ex × HrS :=
  bif decide (x.1.2.2.2.2.2.1 < x.1.2.2.2.2.1) then
    bif (hrG x).2.2.2 != (0 : Int) then (.ret, (([], (hrG x).2.2.2, x.1.2.2), (x.2.1, x.2.2.1, x.2.1, x.2.2.2.2)))
    else (.normal, ((x.1.1, x.1.2.1, x.1.2.2.1, x.1.2.2.2.1, x.1.2.2.2.2.1, x.1.2.2.2.2.2.1 + 1, ()), (x.2.1, x.2.2.1, x.2.2.2.1, (x.2.2.2.2.1.1, x.2.2.2.2.1.2.1, x.2.2.2.2.1.2.2.1, (hrG x).1), (bif (hrG x).2.2.1 then x.2.2.2.2.2.1 ++ [(hrG x).2.1] else x.2.2.2.2.2.1), ())))
  else (.exit 0, x)
def hrMu (x : HrS) : Nat := (x.1.2.2.2.2.1 - x.1.2.2.2.2.2.1).toNat
def hrD : LoopD where
  prom := [(14, 1014, 25, .sl gItem)]
  ts := [(3, .ptr 3 gBox), (4, .ptr 4 gHello), (6, .ptr 6 gBox), (7, .val .str), (8, .nil), (9, .val (.int .i64)), (12, .val (.int .i64)), (13, .ptr 13 gBox), (14, .tip 1014), (44, .val (.sl gPart)), (45, .val (.int .i64)), (46, .val (.int .i64))]
  bs := [(3, .var gBox), (4, .var gHello), (6, .var gBox), (13, .var gBox), (1014, .row 25 (.sl gItem) false)]
  pre := fun (x : HrS) => hrPre x
  out := fun (x : HrS) => out2 0 (runF hrStp (hrMu x + 1) x)
theorem hr_round : (fun x : HrS => roundOf (mkC tys hearG [(0, hrD.spec)]) hrD (loopB 0 (bodyOf (fnOf Tryz.prog 32))) x) = (fun x => Tree.br (decide (x.1.2.2.2.2.2.1 < x.1.2.2.2.2.1)) (Tree.need ((0 : Int) ≤ x.1.2.2.2.2.2.1 ∧ x.1.2.2.2.2.2.1 < (↑(List.length x.1.2.2.2.1) : Int)) (Tree.br ((gatherF x.2.2.2.2.1.2.2.2 (List.getD x.1.2.2.2.1 (Int.toNat x.1.2.2.2.2.2.1) ((0 : Int), (((0 : Int), (0 : Int)), (0 : Int), (0 : Int)), (0 : Int), false, []))).2.2.2 != (0 : Int)) (Tree.leaf (Ex.ret, some (([], (gatherF x.2.2.2.2.1.2.2.2 (List.getD x.1.2.2.2.1 (Int.toNat x.1.2.2.2.2.2.1) ((0 : Int), (((0 : Int), (0 : Int)), (0 : Int), (0 : Int)), (0 : Int), false, []))).2.2.2, x.1.2.2.1, x.1.2.2.2.1, x.1.2.2.2.2.1, x.1.2.2.2.2.2.1, ()), x.2.1, x.2.2.1, x.2.1, x.2.2.2.2.1, x.2.2.2.2.2.1, ()))) (Tree.need ((gatherF x.2.2.2.2.1.2.2.2 (List.getD x.1.2.2.2.1 (Int.toNat x.1.2.2.2.2.2.1) ((0 : Int), (((0 : Int), (0 : Int)), (0 : Int), (0 : Int)), (0 : Int), false, []))).2.2.1 = true → (List.length x.2.2.2.2.2.1 + (1 : Nat)) * (24 : Nat) ≤ (140737488355328 : Nat)) (Tree.leaf (Ex.normal, some ((x.1.1, x.1.2.1, x.1.2.2.1, x.1.2.2.2.1, x.1.2.2.2.2.1, IntKind.wrap IntKind.i64 (x.1.2.2.2.2.2.1 + (1 : Int)), ()), x.2.1, x.2.2.1, x.2.2.2.1, (x.2.2.2.2.1.1, x.2.2.2.2.1.2.1, x.2.2.2.2.1.2.2.1, (gatherF x.2.2.2.2.1.2.2.2 (List.getD x.1.2.2.2.1 (Int.toNat x.1.2.2.2.2.2.1) ((0 : Int), (((0 : Int), (0 : Int)), (0 : Int), (0 : Int)), (0 : Int), false, []))).1), bif (gatherF x.2.2.2.2.1.2.2.2 (List.getD x.1.2.2.2.1 (Int.toNat x.1.2.2.2.2.2.1) ((0 : Int), (((0 : Int), (0 : Int)), (0 : Int), (0 : Int)), (0 : Int), false, []))).2.2.1 then x.2.2.2.2.2.1 ++ [(gatherF x.2.2.2.2.1.2.2.2 (List.getD x.1.2.2.2.1 (Int.toNat x.1.2.2.2.2.2.1) ((0 : Int), (((0 : Int), (0 : Int)), (0 : Int), (0 : Int)), (0 : Int), false, []))).2.1] else x.2.2.2.2.2.1, ())))))) (Tree.leaf (Ex.exit (0 : Nat), some ((x.1.1, x.1.2.1, x.1.2.2.1, x.1.2.2.2.1, x.1.2.2.2.2.1, x.1.2.2.2.2.2.1, ()), x.2.1, x.2.2.1, x.2.2.2.1, x.2.2.2.2.1, x.2.2.2.2.2.1, ())))) := by kernel_rfl
def hearC : Ctr := { args := [gBox, gHello, gPart], res := [gBox, .str, .sl (.sl gItem), .int .i64], pre := some (fun (x : DMrl × DHello × DPart) => takePre (x.1.2.2.1, x.2.2)), fn := fun (x : DMrl × DHello × DPart) => hearF x.1 x.2.1 x.2.2 }
theorem hear_tree : (fun x : DMrl × DHello × DPart => evFn (mkC tys hearG [(0, hrD.spec)]) (fnOf Tryz.prog 32) (resL hearC.args x) hearC.res) = (fun x => Tree.need (takePre (x.1.2.2.1, x.2.2)) (Tree.br (bif (wtakeF x.1.2.2.1 x.2.2).2.2 != (0 : Int) then (wtakeF x.1.2.2.1 x.2.2).2.2 != (6 : Int) else false) (Tree.leaf (x.1, [], [], (wtakeF x.1.2.2.1 x.2.2).2.2)) (Tree.need (hrPre (([], (0 : Int), (wtakeF x.1.2.2.1 x.2.2).2.2, (wtakeF x.1.2.2.1 x.2.2).2.1, (↑(List.length (wtakeF x.1.2.2.1 x.2.2).2.1) : Int), (0 : Int), PUnit.unit), x.1, x.2.1, ((0 : Int), [], ((0 : Int), []), []), (x.1.1, x.1.2.1, (wtakeF x.1.2.2.1 x.2.2).1, x.1.2.2.2), [], PUnit.unit)) (Tree.br (isRet (runF hrStp (hrMu (([], (0 : Int), (wtakeF x.1.2.2.1 x.2.2).2.2, (wtakeF x.1.2.2.1 x.2.2).2.1, (↑(List.length (wtakeF x.1.2.2.1 x.2.2).2.1) : Int), (0 : Int), PUnit.unit), x.1, x.2.1, ((0 : Int), [], ((0 : Int), []), []), (x.1.1, x.1.2.1, (wtakeF x.1.2.2.1 x.2.2).1, x.1.2.2.2), [], PUnit.unit) + (1 : Nat)) (([], (0 : Int), (wtakeF x.1.2.2.1 x.2.2).2.2, (wtakeF x.1.2.2.1 x.2.2).2.1, (↑(List.length (wtakeF x.1.2.2.1 x.2.2).2.1) : Int), (0 : Int), PUnit.unit), x.1, x.2.1, ((0 : Int), [], ((0 : Int), []), []), (x.1.1, x.1.2.1, (wtakeF x.1.2.2.1 x.2.2).1, x.1.2.2.2), [], PUnit.unit)).1) (Tree.leaf ((runF hrStp (hrMu (([], (0 : Int), (wtakeF x.1.2.2.1 x.2.2).2.2, (wtakeF x.1.2.2.1 x.2.2).2.1, (↑(List.length (wtakeF x.1.2.2.1 x.2.2).2.1) : Int), (0 : Int), PUnit.unit), x.1, x.2.1, ((0 : Int), [], ((0 : Int), []), []), (x.1.1, x.1.2.1, (wtakeF x.1.2.2.1 x.2.2).1, x.1.2.2.2), [], PUnit.unit) + (1 : Nat)) (([], (0 : Int), (wtakeF x.1.2.2.1 x.2.2).2.2, (wtakeF x.1.2.2.1 x.2.2).2.1, (↑(List.length (wtakeF x.1.2.2.1 x.2.2).2.1) : Int), (0 : Int), PUnit.unit), x.1, x.2.1, ((0 : Int), [], ((0 : Int), []), []), (x.1.1, x.1.2.1, (wtakeF x.1.2.2.1 x.2.2).1, x.1.2.2.2), [], PUnit.unit)).2.2.2.2.1, (runF hrStp (hrMu (([], (0 : Int), (wtakeF x.1.2.2.1 x.2.2).2.2, (wtakeF x.1.2.2.1 x.2.2).2.1, (↑(List.length (wtakeF x.1.2.2.1 x.2.2).2.1) : Int), (0 : Int), PUnit.unit), x.1, x.2.1, ((0 : Int), [], ((0 : Int), []), []), (x.1.1, x.1.2.1, (wtakeF x.1.2.2.1 x.2.2).1, x.1.2.2.2), [], PUnit.unit) + (1 : Nat)) (([], (0 : Int), (wtakeF x.1.2.2.1 x.2.2).2.2, (wtakeF x.1.2.2.1 x.2.2).2.1, (↑(List.length (wtakeF x.1.2.2.1 x.2.2).2.1) : Int), (0 : Int), PUnit.unit), x.1, x.2.1, ((0 : Int), [], ((0 : Int), []), []), (x.1.1, x.1.2.1, (wtakeF x.1.2.2.1 x.2.2).1, x.1.2.2.2), [], PUnit.unit)).2.1.1, [], (runF hrStp (hrMu (([], (0 : Int), (wtakeF x.1.2.2.1 x.2.2).2.2, (wtakeF x.1.2.2.1 x.2.2).2.1, (↑(List.length (wtakeF x.1.2.2.1 x.2.2).2.1) : Int), (0 : Int), PUnit.unit), x.1, x.2.1, ((0 : Int), [], ((0 : Int), []), []), (x.1.1, x.1.2.1, (wtakeF x.1.2.2.1 x.2.2).1, x.1.2.2.2), [], PUnit.unit) + (1 : Nat)) (([], (0 : Int), (wtakeF x.1.2.2.1 x.2.2).2.2, (wtakeF x.1.2.2.1 x.2.2).2.1, (↑(List.length (wtakeF x.1.2.2.1 x.2.2).2.1) : Int), (0 : Int), PUnit.unit), x.1, x.2.1, ((0 : Int), [], ((0 : Int), []), []), (x.1.1, x.1.2.1, (wtakeF x.1.2.2.1 x.2.2).1, x.1.2.2.2), [], PUnit.unit)).2.1.2.1)) (Tree.need (List.length (runF hrStp (hrMu (([], (0 : Int), (wtakeF x.1.2.2.1 x.2.2).2.2, (wtakeF x.1.2.2.1 x.2.2).2.1, (↑(List.length (wtakeF x.1.2.2.1 x.2.2).2.1) : Int), (0 : Int), PUnit.unit), x.1, x.2.1, ((0 : Int), [], ((0 : Int), []), []), (x.1.1, x.1.2.1, (wtakeF x.1.2.2.1 x.2.2).1, x.1.2.2.2), [], PUnit.unit) + (1 : Nat)) (([], (0 : Int), (wtakeF x.1.2.2.1 x.2.2).2.2, (wtakeF x.1.2.2.1 x.2.2).2.1, (↑(List.length (wtakeF x.1.2.2.1 x.2.2).2.1) : Int), (0 : Int), PUnit.unit), x.1, x.2.1, ((0 : Int), [], ((0 : Int), []), []), (x.1.1, x.1.2.1, (wtakeF x.1.2.2.1 x.2.2).1, x.1.2.2.2), [], PUnit.unit)).2.2.2.2.2.1.2.2.1.2 ≤ (100000 : Nat)) (Tree.br ((wrappedF (3 : Int) (ackF ((runF hrStp (hrMu (([], (0 : Int), (wtakeF x.1.2.2.1 x.2.2).2.2, (wtakeF x.1.2.2.1 x.2.2).2.1, (↑(List.length (wtakeF x.1.2.2.1 x.2.2).2.1) : Int), (0 : Int), PUnit.unit), x.1, x.2.1, ((0 : Int), [], ((0 : Int), []), []), (x.1.1, x.1.2.1, (wtakeF x.1.2.2.1 x.2.2).1, x.1.2.2.2), [], PUnit.unit) + (1 : Nat)) (([], (0 : Int), (wtakeF x.1.2.2.1 x.2.2).2.2, (wtakeF x.1.2.2.1 x.2.2).2.1, (↑(List.length (wtakeF x.1.2.2.1 x.2.2).2.1) : Int), (0 : Int), PUnit.unit), x.1, x.2.1, ((0 : Int), [], ((0 : Int), []), []), (x.1.1, x.1.2.1, (wtakeF x.1.2.2.1 x.2.2).1, x.1.2.2.2), [], PUnit.unit)).2.2.2.1.1, (runF hrStp (hrMu (([], (0 : Int), (wtakeF x.1.2.2.1 x.2.2).2.2, (wtakeF x.1.2.2.1 x.2.2).2.1, (↑(List.length (wtakeF x.1.2.2.1 x.2.2).2.1) : Int), (0 : Int), PUnit.unit), x.1, x.2.1, ((0 : Int), [], ((0 : Int), []), []), (x.1.1, x.1.2.1, (wtakeF x.1.2.2.1 x.2.2).1, x.1.2.2.2), [], PUnit.unit) + (1 : Nat)) (([], (0 : Int), (wtakeF x.1.2.2.1 x.2.2).2.2, (wtakeF x.1.2.2.1 x.2.2).2.1, (↑(List.length (wtakeF x.1.2.2.1 x.2.2).2.1) : Int), (0 : Int), PUnit.unit), x.1, x.2.1, ((0 : Int), [], ((0 : Int), []), []), (x.1.1, x.1.2.1, (wtakeF x.1.2.2.1 x.2.2).1, x.1.2.2.2), [], PUnit.unit)).2.2.2.1.2, (bitsA (runF hrStp (hrMu (([], (0 : Int), (wtakeF x.1.2.2.1 x.2.2).2.2, (wtakeF x.1.2.2.1 x.2.2).2.1, (↑(List.length (wtakeF x.1.2.2.1 x.2.2).2.1) : Int), (0 : Int), PUnit.unit), x.1, x.2.1, ((0 : Int), [], ((0 : Int), []), []), (x.1.1, x.1.2.1, (wtakeF x.1.2.2.1 x.2.2).1, x.1.2.2.2), [], PUnit.unit) + (1 : Nat)) (([], (0 : Int), (wtakeF x.1.2.2.1 x.2.2).2.2, (wtakeF x.1.2.2.1 x.2.2).2.1, (↑(List.length (wtakeF x.1.2.2.1 x.2.2).2.1) : Int), (0 : Int), PUnit.unit), x.1, x.2.1, ((0 : Int), [], ((0 : Int), []), []), (x.1.1, x.1.2.1, (wtakeF x.1.2.2.1 x.2.2).1, x.1.2.2.2), [], PUnit.unit)).2.2.2.2.2.1.2.2.1.1 (seqsF (runF hrStp (hrMu (([], (0 : Int), (wtakeF x.1.2.2.1 x.2.2).2.2, (wtakeF x.1.2.2.1 x.2.2).2.1, (↑(List.length (wtakeF x.1.2.2.1 x.2.2).2.1) : Int), (0 : Int), PUnit.unit), x.1, x.2.1, ((0 : Int), [], ((0 : Int), []), []), (x.1.1, x.1.2.1, (wtakeF x.1.2.2.1 x.2.2).1, x.1.2.2.2), [], PUnit.unit) + (1 : Nat)) (([], (0 : Int), (wtakeF x.1.2.2.1 x.2.2).2.2, (wtakeF x.1.2.2.1 x.2.2).2.1, (↑(List.length (wtakeF x.1.2.2.1 x.2.2).2.1) : Int), (0 : Int), PUnit.unit), x.1, x.2.1, ((0 : Int), [], ((0 : Int), []), []), (x.1.1, x.1.2.1, (wtakeF x.1.2.2.1 x.2.2).1, x.1.2.2.2), [], PUnit.unit)).2.2.2.2.2.1.2.2.1)).1, (bitsA (runF hrStp (hrMu (([], (0 : Int), (wtakeF x.1.2.2.1 x.2.2).2.2, (wtakeF x.1.2.2.1 x.2.2).2.1, (↑(List.length (wtakeF x.1.2.2.1 x.2.2).2.1) : Int), (0 : Int), PUnit.unit), x.1, x.2.1, ((0 : Int), [], ((0 : Int), []), []), (x.1.1, x.1.2.1, (wtakeF x.1.2.2.1 x.2.2).1, x.1.2.2.2), [], PUnit.unit) + (1 : Nat)) (([], (0 : Int), (wtakeF x.1.2.2.1 x.2.2).2.2, (wtakeF x.1.2.2.1 x.2.2).2.1, (↑(List.length (wtakeF x.1.2.2.1 x.2.2).2.1) : Int), (0 : Int), PUnit.unit), x.1, x.2.1, ((0 : Int), [], ((0 : Int), []), []), (x.1.1, x.1.2.1, (wtakeF x.1.2.2.1 x.2.2).1, x.1.2.2.2), [], PUnit.unit)).2.2.2.2.2.1.2.2.1.1 (seqsF (runF hrStp (hrMu (([], (0 : Int), (wtakeF x.1.2.2.1 x.2.2).2.2, (wtakeF x.1.2.2.1 x.2.2).2.1, (↑(List.length (wtakeF x.1.2.2.1 x.2.2).2.1) : Int), (0 : Int), PUnit.unit), x.1, x.2.1, ((0 : Int), [], ((0 : Int), []), []), (x.1.1, x.1.2.1, (wtakeF x.1.2.2.1 x.2.2).1, x.1.2.2.2), [], PUnit.unit) + (1 : Nat)) (([], (0 : Int), (wtakeF x.1.2.2.1 x.2.2).2.2, (wtakeF x.1.2.2.1 x.2.2).2.1, (↑(List.length (wtakeF x.1.2.2.1 x.2.2).2.1) : Int), (0 : Int), PUnit.unit), x.1, x.2.1, ((0 : Int), [], ((0 : Int), []), []), (x.1.1, x.1.2.1, (wtakeF x.1.2.2.1 x.2.2).1, x.1.2.2.2), [], PUnit.unit)).2.2.2.2.2.1.2.2.1)).2)).1 (ackF ((runF hrStp (hrMu (([], (0 : Int), (wtakeF x.1.2.2.1 x.2.2).2.2, (wtakeF x.1.2.2.1 x.2.2).2.1, (↑(List.length (wtakeF x.1.2.2.1 x.2.2).2.1) : Int), (0 : Int), PUnit.unit), x.1, x.2.1, ((0 : Int), [], ((0 : Int), []), []), (x.1.1, x.1.2.1, (wtakeF x.1.2.2.1 x.2.2).1, x.1.2.2.2), [], PUnit.unit) + (1 : Nat)) (([], (0 : Int), (wtakeF x.1.2.2.1 x.2.2).2.2, (wtakeF x.1.2.2.1 x.2.2).2.1, (↑(List.length (wtakeF x.1.2.2.1 x.2.2).2.1) : Int), (0 : Int), PUnit.unit), x.1, x.2.1, ((0 : Int), [], ((0 : Int), []), []), (x.1.1, x.1.2.1, (wtakeF x.1.2.2.1 x.2.2).1, x.1.2.2.2), [], PUnit.unit)).2.2.2.1.1, (runF hrStp (hrMu (([], (0 : Int), (wtakeF x.1.2.2.1 x.2.2).2.2, (wtakeF x.1.2.2.1 x.2.2).2.1, (↑(List.length (wtakeF x.1.2.2.1 x.2.2).2.1) : Int), (0 : Int), PUnit.unit), x.1, x.2.1, ((0 : Int), [], ((0 : Int), []), []), (x.1.1, x.1.2.1, (wtakeF x.1.2.2.1 x.2.2).1, x.1.2.2.2), [], PUnit.unit) + (1 : Nat)) (([], (0 : Int), (wtakeF x.1.2.2.1 x.2.2).2.2, (wtakeF x.1.2.2.1 x.2.2).2.1, (↑(List.length (wtakeF x.1.2.2.1 x.2.2).2.1) : Int), (0 : Int), PUnit.unit), x.1, x.2.1, ((0 : Int), [], ((0 : Int), []), []), (x.1.1, x.1.2.1, (wtakeF x.1.2.2.1 x.2.2).1, x.1.2.2.2), [], PUnit.unit)).2.2.2.1.2, (bitsA (runF hrStp (hrMu (([], (0 : Int), (wtakeF x.1.2.2.1 x.2.2).2.2, (wtakeF x.1.2.2.1 x.2.2).2.1, (↑(List.length (wtakeF x.1.2.2.1 x.2.2).2.1) : Int), (0 : Int), PUnit.unit), x.1, x.2.1, ((0 : Int), [], ((0 : Int), []), []), (x.1.1, x.1.2.1, (wtakeF x.1.2.2.1 x.2.2).1, x.1.2.2.2), [], PUnit.unit) + (1 : Nat)) (([], (0 : Int), (wtakeF x.1.2.2.1 x.2.2).2.2, (wtakeF x.1.2.2.1 x.2.2).2.1, (↑(List.length (wtakeF x.1.2.2.1 x.2.2).2.1) : Int), (0 : Int), PUnit.unit), x.1, x.2.1, ((0 : Int), [], ((0 : Int), []), []), (x.1.1, x.1.2.1, (wtakeF x.1.2.2.1 x.2.2).1, x.1.2.2.2), [], PUnit.unit)).2.2.2.2.2.1.2.2.1.1 (seqsF (runF hrStp (hrMu (([], (0 : Int), (wtakeF x.1.2.2.1 x.2.2).2.2, (wtakeF x.1.2.2.1 x.2.2).2.1, (↑(List.length (wtakeF x.1.2.2.1 x.2.2).2.1) : Int), (0 : Int), PUnit.unit), x.1, x.2.1, ((0 : Int), [], ((0 : Int), []), []), (x.1.1, x.1.2.1, (wtakeF x.1.2.2.1 x.2.2).1, x.1.2.2.2), [], PUnit.unit) + (1 : Nat)) (([], (0 : Int), (wtakeF x.1.2.2.1 x.2.2).2.2, (wtakeF x.1.2.2.1 x.2.2).2.1, (↑(List.length (wtakeF x.1.2.2.1 x.2.2).2.1) : Int), (0 : Int), PUnit.unit), x.1, x.2.1, ((0 : Int), [], ((0 : Int), []), []), (x.1.1, x.1.2.1, (wtakeF x.1.2.2.1 x.2.2).1, x.1.2.2.2), [], PUnit.unit)).2.2.2.2.2.1.2.2.1)).1, (bitsA (runF hrStp (hrMu (([], (0 : Int), (wtakeF x.1.2.2.1 x.2.2).2.2, (wtakeF x.1.2.2.1 x.2.2).2.1, (↑(List.length (wtakeF x.1.2.2.1 x.2.2).2.1) : Int), (0 : Int), PUnit.unit), x.1, x.2.1, ((0 : Int), [], ((0 : Int), []), []), (x.1.1, x.1.2.1, (wtakeF x.1.2.2.1 x.2.2).1, x.1.2.2.2), [], PUnit.unit) + (1 : Nat)) (([], (0 : Int), (wtakeF x.1.2.2.1 x.2.2).2.2, (wtakeF x.1.2.2.1 x.2.2).2.1, (↑(List.length (wtakeF x.1.2.2.1 x.2.2).2.1) : Int), (0 : Int), PUnit.unit), x.1, x.2.1, ((0 : Int), [], ((0 : Int), []), []), (x.1.1, x.1.2.1, (wtakeF x.1.2.2.1 x.2.2).1, x.1.2.2.2), [], PUnit.unit)).2.2.2.2.2.1.2.2.1.1 (seqsF (runF hrStp (hrMu (([], (0 : Int), (wtakeF x.1.2.2.1 x.2.2).2.2, (wtakeF x.1.2.2.1 x.2.2).2.1, (↑(List.length (wtakeF x.1.2.2.1 x.2.2).2.1) : Int), (0 : Int), PUnit.unit), x.1, x.2.1, ((0 : Int), [], ((0 : Int), []), []), (x.1.1, x.1.2.1, (wtakeF x.1.2.2.1 x.2.2).1, x.1.2.2.2), [], PUnit.unit) + (1 : Nat)) (([], (0 : Int), (wtakeF x.1.2.2.1 x.2.2).2.2, (wtakeF x.1.2.2.1 x.2.2).2.1, (↑(List.length (wtakeF x.1.2.2.1 x.2.2).2.1) : Int), (0 : Int), PUnit.unit), x.1, x.2.1, ((0 : Int), [], ((0 : Int), []), []), (x.1.1, x.1.2.1, (wtakeF x.1.2.2.1 x.2.2).1, x.1.2.2.2), [], PUnit.unit)).2.2.2.2.2.1.2.2.1)).2)).2).2 != (0 : Int)) (Tree.leaf ((runF hrStp (hrMu (([], (0 : Int), (wtakeF x.1.2.2.1 x.2.2).2.2, (wtakeF x.1.2.2.1 x.2.2).2.1, (↑(List.length (wtakeF x.1.2.2.1 x.2.2).2.1) : Int), (0 : Int), PUnit.unit), x.1, x.2.1, ((0 : Int), [], ((0 : Int), []), []), (x.1.1, x.1.2.1, (wtakeF x.1.2.2.1 x.2.2).1, x.1.2.2.2), [], PUnit.unit) + (1 : Nat)) (([], (0 : Int), (wtakeF x.1.2.2.1 x.2.2).2.2, (wtakeF x.1.2.2.1 x.2.2).2.1, (↑(List.length (wtakeF x.1.2.2.1 x.2.2).2.1) : Int), (0 : Int), PUnit.unit), x.1, x.2.1, ((0 : Int), [], ((0 : Int), []), []), (x.1.1, x.1.2.1, (wtakeF x.1.2.2.1 x.2.2).1, x.1.2.2.2), [], PUnit.unit)).2.2.1, [], [], (wrappedF (3 : Int) (ackF ((runF hrStp (hrMu (([], (0 : Int), (wtakeF x.1.2.2.1 x.2.2).2.2, (wtakeF x.1.2.2.1 x.2.2).2.1, (↑(List.length (wtakeF x.1.2.2.1 x.2.2).2.1) : Int), (0 : Int), PUnit.unit), x.1, x.2.1, ((0 : Int), [], ((0 : Int), []), []), (x.1.1, x.1.2.1, (wtakeF x.1.2.2.1 x.2.2).1, x.1.2.2.2), [], PUnit.unit) + (1 : Nat)) (([], (0 : Int), (wtakeF x.1.2.2.1 x.2.2).2.2, (wtakeF x.1.2.2.1 x.2.2).2.1, (↑(List.length (wtakeF x.1.2.2.1 x.2.2).2.1) : Int), (0 : Int), PUnit.unit), x.1, x.2.1, ((0 : Int), [], ((0 : Int), []), []), (x.1.1, x.1.2.1, (wtakeF x.1.2.2.1 x.2.2).1, x.1.2.2.2), [], PUnit.unit)).2.2.2.1.1, (runF hrStp (hrMu (([], (0 : Int), (wtakeF x.1.2.2.1 x.2.2).2.2, (wtakeF x.1.2.2.1 x.2.2).2.1, (↑(List.length (wtakeF x.1.2.2.1 x.2.2).2.1) : Int), (0 : Int), PUnit.unit), x.1, x.2.1, ((0 : Int), [], ((0 : Int), []), []), (x.1.1, x.1.2.1, (wtakeF x.1.2.2.1 x.2.2).1, x.1.2.2.2), [], PUnit.unit) + (1 : Nat)) (([], (0 : Int), (wtakeF x.1.2.2.1 x.2.2).2.2, (wtakeF x.1.2.2.1 x.2.2).2.1, (↑(List.length (wtakeF x.1.2.2.1 x.2.2).2.1) : Int), (0 : Int), PUnit.unit), x.1, x.2.1, ((0 : Int), [], ((0 : Int), []), []), (x.1.1, x.1.2.1, (wtakeF x.1.2.2.1 x.2.2).1, x.1.2.2.2), [], PUnit.unit)).2.2.2.1.2, (bitsA (runF hrStp (hrMu (([], (0 : Int), (wtakeF x.1.2.2.1 x.2.2).2.2, (wtakeF x.1.2.2.1 x.2.2).2.1, (↑(List.length (wtakeF x.1.2.2.1 x.2.2).2.1) : Int), (0 : Int), PUnit.unit), x.1, x.2.1, ((0 : Int), [], ((0 : Int), []), []), (x.1.1, x.1.2.1, (wtakeF x.1.2.2.1 x.2.2).1, x.1.2.2.2), [], PUnit.unit) + (1 : Nat)) (([], (0 : Int), (wtakeF x.1.2.2.1 x.2.2).2.2, (wtakeF x.1.2.2.1 x.2.2).2.1, (↑(List.length (wtakeF x.1.2.2.1 x.2.2).2.1) : Int), (0 : Int), PUnit.unit), x.1, x.2.1, ((0 : Int), [], ((0 : Int), []), []), (x.1.1, x.1.2.1, (wtakeF x.1.2.2.1 x.2.2).1, x.1.2.2.2), [], PUnit.unit)).2.2.2.2.2.1.2.2.1.1 (seqsF (runF hrStp (hrMu (([], (0 : Int), (wtakeF x.1.2.2.1 x.2.2).2.2, (wtakeF x.1.2.2.1 x.2.2).2.1, (↑(List.length (wtakeF x.1.2.2.1 x.2.2).2.1) : Int), (0 : Int), PUnit.unit), x.1, x.2.1, ((0 : Int), [], ((0 : Int), []), []), (x.1.1, x.1.2.1, (wtakeF x.1.2.2.1 x.2.2).1, x.1.2.2.2), [], PUnit.unit) + (1 : Nat)) (([], (0 : Int), (wtakeF x.1.2.2.1 x.2.2).2.2, (wtakeF x.1.2.2.1 x.2.2).2.1, (↑(List.length (wtakeF x.1.2.2.1 x.2.2).2.1) : Int), (0 : Int), PUnit.unit), x.1, x.2.1, ((0 : Int), [], ((0 : Int), []), []), (x.1.1, x.1.2.1, (wtakeF x.1.2.2.1 x.2.2).1, x.1.2.2.2), [], PUnit.unit)).2.2.2.2.2.1.2.2.1)).1, (bitsA (runF hrStp (hrMu (([], (0 : Int), (wtakeF x.1.2.2.1 x.2.2).2.2, (wtakeF x.1.2.2.1 x.2.2).2.1, (↑(List.length (wtakeF x.1.2.2.1 x.2.2).2.1) : Int), (0 : Int), PUnit.unit), x.1, x.2.1, ((0 : Int), [], ((0 : Int), []), []), (x.1.1, x.1.2.1, (wtakeF x.1.2.2.1 x.2.2).1, x.1.2.2.2), [], PUnit.unit) + (1 : Nat)) (([], (0 : Int), (wtakeF x.1.2.2.1 x.2.2).2.2, (wtakeF x.1.2.2.1 x.2.2).2.1, (↑(List.length (wtakeF x.1.2.2.1 x.2.2).2.1) : Int), (0 : Int), PUnit.unit), x.1, x.2.1, ((0 : Int), [], ((0 : Int), []), []), (x.1.1, x.1.2.1, (wtakeF x.1.2.2.1 x.2.2).1, x.1.2.2.2), [], PUnit.unit)).2.2.2.2.2.1.2.2.1.1 (seqsF (runF hrStp (hrMu (([], (0 : Int), (wtakeF x.1.2.2.1 x.2.2).2.2, (wtakeF x.1.2.2.1 x.2.2).2.1, (↑(List.length (wtakeF x.1.2.2.1 x.2.2).2.1) : Int), (0 : Int), PUnit.unit), x.1, x.2.1, ((0 : Int), [], ((0 : Int), []), []), (x.1.1, x.1.2.1, (wtakeF x.1.2.2.1 x.2.2).1, x.1.2.2.2), [], PUnit.unit) + (1 : Nat)) (([], (0 : Int), (wtakeF x.1.2.2.1 x.2.2).2.2, (wtakeF x.1.2.2.1 x.2.2).2.1, (↑(List.length (wtakeF x.1.2.2.1 x.2.2).2.1) : Int), (0 : Int), PUnit.unit), x.1, x.2.1, ((0 : Int), [], ((0 : Int), []), []), (x.1.1, x.1.2.1, (wtakeF x.1.2.2.1 x.2.2).1, x.1.2.2.2), [], PUnit.unit)).2.2.2.2.2.1.2.2.1)).2)).1 (ackF ((runF hrStp (hrMu (([], (0 : Int), (wtakeF x.1.2.2.1 x.2.2).2.2, (wtakeF x.1.2.2.1 x.2.2).2.1, (↑(List.length (wtakeF x.1.2.2.1 x.2.2).2.1) : Int), (0 : Int), PUnit.unit), x.1, x.2.1, ((0 : Int), [], ((0 : Int), []), []), (x.1.1, x.1.2.1, (wtakeF x.1.2.2.1 x.2.2).1, x.1.2.2.2), [], PUnit.unit) + (1 : Nat)) (([], (0 : Int), (wtakeF x.1.2.2.1 x.2.2).2.2, (wtakeF x.1.2.2.1 x.2.2).2.1, (↑(List.length (wtakeF x.1.2.2.1 x.2.2).2.1) : Int), (0 : Int), PUnit.unit), x.1, x.2.1, ((0 : Int), [], ((0 : Int), []), []), (x.1.1, x.1.2.1, (wtakeF x.1.2.2.1 x.2.2).1, x.1.2.2.2), [], PUnit.unit)).2.2.2.1.1, (runF hrStp (hrMu (([], (0 : Int), (wtakeF x.1.2.2.1 x.2.2).2.2, (wtakeF x.1.2.2.1 x.2.2).2.1, (↑(List.length (wtakeF x.1.2.2.1 x.2.2).2.1) : Int), (0 : Int), PUnit.unit), x.1, x.2.1, ((0 : Int), [], ((0 : Int), []), []), (x.1.1, x.1.2.1, (wtakeF x.1.2.2.1 x.2.2).1, x.1.2.2.2), [], PUnit.unit) + (1 : Nat)) (([], (0 : Int), (wtakeF x.1.2.2.1 x.2.2).2.2, (wtakeF x.1.2.2.1 x.2.2).2.1, (↑(List.length (wtakeF x.1.2.2.1 x.2.2).2.1) : Int), (0 : Int), PUnit.unit), x.1, x.2.1, ((0 : Int), [], ((0 : Int), []), []), (x.1.1, x.1.2.1, (wtakeF x.1.2.2.1 x.2.2).1, x.1.2.2.2), [], PUnit.unit)).2.2.2.1.2, (bitsA (runF hrStp (hrMu (([], (0 : Int), (wtakeF x.1.2.2.1 x.2.2).2.2, (wtakeF x.1.2.2.1 x.2.2).2.1, (↑(List.length (wtakeF x.1.2.2.1 x.2.2).2.1) : Int), (0 : Int), PUnit.unit), x.1, x.2.1, ((0 : Int), [], ((0 : Int), []), []), (x.1.1, x.1.2.1, (wtakeF x.1.2.2.1 x.2.2).1, x.1.2.2.2), [], PUnit.unit) + (1 : Nat)) (([], (0 : Int), (wtakeF x.1.2.2.1 x.2.2).2.2, (wtakeF x.1.2.2.1 x.2.2).2.1, (↑(List.length (wtakeF x.1.2.2.1 x.2.2).2.1) : Int), (0 : Int), PUnit.unit), x.1, x.2.1, ((0 : Int), [], ((0 : Int), []), []), (x.1.1, x.1.2.1, (wtakeF x.1.2.2.1 x.2.2).1, x.1.2.2.2), [], PUnit.unit)).2.2.2.2.2.1.2.2.1.1 (seqsF (runF hrStp (hrMu (([], (0 : Int), (wtakeF x.1.2.2.1 x.2.2).2.2, (wtakeF x.1.2.2.1 x.2.2).2.1, (↑(List.length (wtakeF x.1.2.2.1 x.2.2).2.1) : Int), (0 : Int), PUnit.unit), x.1, x.2.1, ((0 : Int), [], ((0 : Int), []), []), (x.1.1, x.1.2.1, (wtakeF x.1.2.2.1 x.2.2).1, x.1.2.2.2), [], PUnit.unit) + (1 : Nat)) (([], (0 : Int), (wtakeF x.1.2.2.1 x.2.2).2.2, (wtakeF x.1.2.2.1 x.2.2).2.1, (↑(List.length (wtakeF x.1.2.2.1 x.2.2).2.1) : Int), (0 : Int), PUnit.unit), x.1, x.2.1, ((0 : Int), [], ((0 : Int), []), []), (x.1.1, x.1.2.1, (wtakeF x.1.2.2.1 x.2.2).1, x.1.2.2.2), [], PUnit.unit)).2.2.2.2.2.1.2.2.1)).1, (bitsA (runF hrStp (hrMu (([], (0 : Int), (wtakeF x.1.2.2.1 x.2.2).2.2, (wtakeF x.1.2.2.1 x.2.2).2.1, (↑(List.length (wtakeF x.1.2.2.1 x.2.2).2.1) : Int), (0 : Int), PUnit.unit), x.1, x.2.1, ((0 : Int), [], ((0 : Int), []), []), (x.1.1, x.1.2.1, (wtakeF x.1.2.2.1 x.2.2).1, x.1.2.2.2), [], PUnit.unit) + (1 : Nat)) (([], (0 : Int), (wtakeF x.1.2.2.1 x.2.2).2.2, (wtakeF x.1.2.2.1 x.2.2).2.1, (↑(List.length (wtakeF x.1.2.2.1 x.2.2).2.1) : Int), (0 : Int), PUnit.unit), x.1, x.2.1, ((0 : Int), [], ((0 : Int), []), []), (x.1.1, x.1.2.1, (wtakeF x.1.2.2.1 x.2.2).1, x.1.2.2.2), [], PUnit.unit)).2.2.2.2.2.1.2.2.1.1 (seqsF (runF hrStp (hrMu (([], (0 : Int), (wtakeF x.1.2.2.1 x.2.2).2.2, (wtakeF x.1.2.2.1 x.2.2).2.1, (↑(List.length (wtakeF x.1.2.2.1 x.2.2).2.1) : Int), (0 : Int), PUnit.unit), x.1, x.2.1, ((0 : Int), [], ((0 : Int), []), []), (x.1.1, x.1.2.1, (wtakeF x.1.2.2.1 x.2.2).1, x.1.2.2.2), [], PUnit.unit) + (1 : Nat)) (([], (0 : Int), (wtakeF x.1.2.2.1 x.2.2).2.2, (wtakeF x.1.2.2.1 x.2.2).2.1, (↑(List.length (wtakeF x.1.2.2.1 x.2.2).2.1) : Int), (0 : Int), PUnit.unit), x.1, x.2.1, ((0 : Int), [], ((0 : Int), []), []), (x.1.1, x.1.2.1, (wtakeF x.1.2.2.1 x.2.2).1, x.1.2.2.2), [], PUnit.unit)).2.2.2.2.2.1.2.2.1)).2)).2).2)) (Tree.leaf ((runF hrStp (hrMu (([], (0 : Int), (wtakeF x.1.2.2.1 x.2.2).2.2, (wtakeF x.1.2.2.1 x.2.2).2.1, (↑(List.length (wtakeF x.1.2.2.1 x.2.2).2.1) : Int), (0 : Int), PUnit.unit), x.1, x.2.1, ((0 : Int), [], ((0 : Int), []), []), (x.1.1, x.1.2.1, (wtakeF x.1.2.2.1 x.2.2).1, x.1.2.2.2), [], PUnit.unit) + (1 : Nat)) (([], (0 : Int), (wtakeF x.1.2.2.1 x.2.2).2.2, (wtakeF x.1.2.2.1 x.2.2).2.1, (↑(List.length (wtakeF x.1.2.2.1 x.2.2).2.1) : Int), (0 : Int), PUnit.unit), x.1, x.2.1, ((0 : Int), [], ((0 : Int), []), []), (x.1.1, x.1.2.1, (wtakeF x.1.2.2.1 x.2.2).1, x.1.2.2.2), [], PUnit.unit)).2.2.2.2.2.1, (wrappedF (3 : Int) (ackF ((runF hrStp (hrMu (([], (0 : Int), (wtakeF x.1.2.2.1 x.2.2).2.2, (wtakeF x.1.2.2.1 x.2.2).2.1, (↑(List.length (wtakeF x.1.2.2.1 x.2.2).2.1) : Int), (0 : Int), PUnit.unit), x.1, x.2.1, ((0 : Int), [], ((0 : Int), []), []), (x.1.1, x.1.2.1, (wtakeF x.1.2.2.1 x.2.2).1, x.1.2.2.2), [], PUnit.unit) + (1 : Nat)) (([], (0 : Int), (wtakeF x.1.2.2.1 x.2.2).2.2, (wtakeF x.1.2.2.1 x.2.2).2.1, (↑(List.length (wtakeF x.1.2.2.1 x.2.2).2.1) : Int), (0 : Int), PUnit.unit), x.1, x.2.1, ((0 : Int), [], ((0 : Int), []), []), (x.1.1, x.1.2.1, (wtakeF x.1.2.2.1 x.2.2).1, x.1.2.2.2), [], PUnit.unit)).2.2.2.1.1, (runF hrStp (hrMu (([], (0 : Int), (wtakeF x.1.2.2.1 x.2.2).2.2, (wtakeF x.1.2.2.1 x.2.2).2.1, (↑(List.length (wtakeF x.1.2.2.1 x.2.2).2.1) : Int), (0 : Int), PUnit.unit), x.1, x.2.1, ((0 : Int), [], ((0 : Int), []), []), (x.1.1, x.1.2.1, (wtakeF x.1.2.2.1 x.2.2).1, x.1.2.2.2), [], PUnit.unit) + (1 : Nat)) (([], (0 : Int), (wtakeF x.1.2.2.1 x.2.2).2.2, (wtakeF x.1.2.2.1 x.2.2).2.1, (↑(List.length (wtakeF x.1.2.2.1 x.2.2).2.1) : Int), (0 : Int), PUnit.unit), x.1, x.2.1, ((0 : Int), [], ((0 : Int), []), []), (x.1.1, x.1.2.1, (wtakeF x.1.2.2.1 x.2.2).1, x.1.2.2.2), [], PUnit.unit)).2.2.2.1.2, (bitsA (runF hrStp (hrMu (([], (0 : Int), (wtakeF x.1.2.2.1 x.2.2).2.2, (wtakeF x.1.2.2.1 x.2.2).2.1, (↑(List.length (wtakeF x.1.2.2.1 x.2.2).2.1) : Int), (0 : Int), PUnit.unit), x.1, x.2.1, ((0 : Int), [], ((0 : Int), []), []), (x.1.1, x.1.2.1, (wtakeF x.1.2.2.1 x.2.2).1, x.1.2.2.2), [], PUnit.unit) + (1 : Nat)) (([], (0 : Int), (wtakeF x.1.2.2.1 x.2.2).2.2, (wtakeF x.1.2.2.1 x.2.2).2.1, (↑(List.length (wtakeF x.1.2.2.1 x.2.2).2.1) : Int), (0 : Int), PUnit.unit), x.1, x.2.1, ((0 : Int), [], ((0 : Int), []), []), (x.1.1, x.1.2.1, (wtakeF x.1.2.2.1 x.2.2).1, x.1.2.2.2), [], PUnit.unit)).2.2.2.2.2.1.2.2.1.1 (seqsF (runF hrStp (hrMu (([], (0 : Int), (wtakeF x.1.2.2.1 x.2.2).2.2, (wtakeF x.1.2.2.1 x.2.2).2.1, (↑(List.length (wtakeF x.1.2.2.1 x.2.2).2.1) : Int), (0 : Int), PUnit.unit), x.1, x.2.1, ((0 : Int), [], ((0 : Int), []), []), (x.1.1, x.1.2.1, (wtakeF x.1.2.2.1 x.2.2).1, x.1.2.2.2), [], PUnit.unit) + (1 : Nat)) (([], (0 : Int), (wtakeF x.1.2.2.1 x.2.2).2.2, (wtakeF x.1.2.2.1 x.2.2).2.1, (↑(List.length (wtakeF x.1.2.2.1 x.2.2).2.1) : Int), (0 : Int), PUnit.unit), x.1, x.2.1, ((0 : Int), [], ((0 : Int), []), []), (x.1.1, x.1.2.1, (wtakeF x.1.2.2.1 x.2.2).1, x.1.2.2.2), [], PUnit.unit)).2.2.2.2.2.1.2.2.1)).1, (bitsA (runF hrStp (hrMu (([], (0 : Int), (wtakeF x.1.2.2.1 x.2.2).2.2, (wtakeF x.1.2.2.1 x.2.2).2.1, (↑(List.length (wtakeF x.1.2.2.1 x.2.2).2.1) : Int), (0 : Int), PUnit.unit), x.1, x.2.1, ((0 : Int), [], ((0 : Int), []), []), (x.1.1, x.1.2.1, (wtakeF x.1.2.2.1 x.2.2).1, x.1.2.2.2), [], PUnit.unit) + (1 : Nat)) (([], (0 : Int), (wtakeF x.1.2.2.1 x.2.2).2.2, (wtakeF x.1.2.2.1 x.2.2).2.1, (↑(List.length (wtakeF x.1.2.2.1 x.2.2).2.1) : Int), (0 : Int), PUnit.unit), x.1, x.2.1, ((0 : Int), [], ((0 : Int), []), []), (x.1.1, x.1.2.1, (wtakeF x.1.2.2.1 x.2.2).1, x.1.2.2.2), [], PUnit.unit)).2.2.2.2.2.1.2.2.1.1 (seqsF (runF hrStp (hrMu (([], (0 : Int), (wtakeF x.1.2.2.1 x.2.2).2.2, (wtakeF x.1.2.2.1 x.2.2).2.1, (↑(List.length (wtakeF x.1.2.2.1 x.2.2).2.1) : Int), (0 : Int), PUnit.unit), x.1, x.2.1, ((0 : Int), [], ((0 : Int), []), []), (x.1.1, x.1.2.1, (wtakeF x.1.2.2.1 x.2.2).1, x.1.2.2.2), [], PUnit.unit) + (1 : Nat)) (([], (0 : Int), (wtakeF x.1.2.2.1 x.2.2).2.2, (wtakeF x.1.2.2.1 x.2.2).2.1, (↑(List.length (wtakeF x.1.2.2.1 x.2.2).2.1) : Int), (0 : Int), PUnit.unit), x.1, x.2.1, ((0 : Int), [], ((0 : Int), []), []), (x.1.1, x.1.2.1, (wtakeF x.1.2.2.1 x.2.2).1, x.1.2.2.2), [], PUnit.unit)).2.2.2.2.2.1.2.2.1)).2)).1 (ackF ((runF hrStp (hrMu (([], (0 : Int), (wtakeF x.1.2.2.1 x.2.2).2.2, (wtakeF x.1.2.2.1 x.2.2).2.1, (↑(List.length (wtakeF x.1.2.2.1 x.2.2).2.1) : Int), (0 : Int), PUnit.unit), x.1, x.2.1, ((0 : Int), [], ((0 : Int), []), []), (x.1.1, x.1.2.1, (wtakeF x.1.2.2.1 x.2.2).1, x.1.2.2.2), [], PUnit.unit) + (1 : Nat)) (([], (0 : Int), (wtakeF x.1.2.2.1 x.2.2).2.2, (wtakeF x.1.2.2.1 x.2.2).2.1, (↑(List.length (wtakeF x.1.2.2.1 x.2.2).2.1) : Int), (0 : Int), PUnit.unit), x.1, x.2.1, ((0 : Int), [], ((0 : Int), []), []), (x.1.1, x.1.2.1, (wtakeF x.1.2.2.1 x.2.2).1, x.1.2.2.2), [], PUnit.unit)).2.2.2.1.1, (runF hrStp (hrMu (([], (0 : Int), (wtakeF x.1.2.2.1 x.2.2).2.2, (wtakeF x.1.2.2.1 x.2.2).2.1, (↑(List.length (wtakeF x.1.2.2.1 x.2.2).2.1) : Int), (0 : Int), PUnit.unit), x.1, x.2.1, ((0 : Int), [], ((0 : Int), []), []), (x.1.1, x.1.2.1, (wtakeF x.1.2.2.1 x.2.2).1, x.1.2.2.2), [], PUnit.unit) + (1 : Nat)) (([], (0 : Int), (wtakeF x.1.2.2.1 x.2.2).2.2, (wtakeF x.1.2.2.1 x.2.2).2.1, (↑(List.length (wtakeF x.1.2.2.1 x.2.2).2.1) : Int), (0 : Int), PUnit.unit), x.1, x.2.1, ((0 : Int), [], ((0 : Int), []), []), (x.1.1, x.1.2.1, (wtakeF x.1.2.2.1 x.2.2).1, x.1.2.2.2), [], PUnit.unit)).2.2.2.1.2, (bitsA (runF hrStp (hrMu (([], (0 : Int), (wtakeF x.1.2.2.1 x.2.2).2.2, (wtakeF x.1.2.2.1 x.2.2).2.1, (↑(List.length (wtakeF x.1.2.2.1 x.2.2).2.1) : Int), (0 : Int), PUnit.unit), x.1, x.2.1, ((0 : Int), [], ((0 : Int), []), []), (x.1.1, x.1.2.1, (wtakeF x.1.2.2.1 x.2.2).1, x.1.2.2.2), [], PUnit.unit) + (1 : Nat)) (([], (0 : Int), (wtakeF x.1.2.2.1 x.2.2).2.2, (wtakeF x.1.2.2.1 x.2.2).2.1, (↑(List.length (wtakeF x.1.2.2.1 x.2.2).2.1) : Int), (0 : Int), PUnit.unit), x.1, x.2.1, ((0 : Int), [], ((0 : Int), []), []), (x.1.1, x.1.2.1, (wtakeF x.1.2.2.1 x.2.2).1, x.1.2.2.2), [], PUnit.unit)).2.2.2.2.2.1.2.2.1.1 (seqsF (runF hrStp (hrMu (([], (0 : Int), (wtakeF x.1.2.2.1 x.2.2).2.2, (wtakeF x.1.2.2.1 x.2.2).2.1, (↑(List.length (wtakeF x.1.2.2.1 x.2.2).2.1) : Int), (0 : Int), PUnit.unit), x.1, x.2.1, ((0 : Int), [], ((0 : Int), []), []), (x.1.1, x.1.2.1, (wtakeF x.1.2.2.1 x.2.2).1, x.1.2.2.2), [], PUnit.unit) + (1 : Nat)) (([], (0 : Int), (wtakeF x.1.2.2.1 x.2.2).2.2, (wtakeF x.1.2.2.1 x.2.2).2.1, (↑(List.length (wtakeF x.1.2.2.1 x.2.2).2.1) : Int), (0 : Int), PUnit.unit), x.1, x.2.1, ((0 : Int), [], ((0 : Int), []), []), (x.1.1, x.1.2.1, (wtakeF x.1.2.2.1 x.2.2).1, x.1.2.2.2), [], PUnit.unit)).2.2.2.2.2.1.2.2.1)).1, (bitsA (runF hrStp (hrMu (([], (0 : Int), (wtakeF x.1.2.2.1 x.2.2).2.2, (wtakeF x.1.2.2.1 x.2.2).2.1, (↑(List.length (wtakeF x.1.2.2.1 x.2.2).2.1) : Int), (0 : Int), PUnit.unit), x.1, x.2.1, ((0 : Int), [], ((0 : Int), []), []), (x.1.1, x.1.2.1, (wtakeF x.1.2.2.1 x.2.2).1, x.1.2.2.2), [], PUnit.unit) + (1 : Nat)) (([], (0 : Int), (wtakeF x.1.2.2.1 x.2.2).2.2, (wtakeF x.1.2.2.1 x.2.2).2.1, (↑(List.length (wtakeF x.1.2.2.1 x.2.2).2.1) : Int), (0 : Int), PUnit.unit), x.1, x.2.1, ((0 : Int), [], ((0 : Int), []), []), (x.1.1, x.1.2.1, (wtakeF x.1.2.2.1 x.2.2).1, x.1.2.2.2), [], PUnit.unit)).2.2.2.2.2.1.2.2.1.1 (seqsF (runF hrStp (hrMu (([], (0 : Int), (wtakeF x.1.2.2.1 x.2.2).2.2, (wtakeF x.1.2.2.1 x.2.2).2.1, (↑(List.length (wtakeF x.1.2.2.1 x.2.2).2.1) : Int), (0 : Int), PUnit.unit), x.1, x.2.1, ((0 : Int), [], ((0 : Int), []), []), (x.1.1, x.1.2.1, (wtakeF x.1.2.2.1 x.2.2).1, x.1.2.2.2), [], PUnit.unit) + (1 : Nat)) (([], (0 : Int), (wtakeF x.1.2.2.1 x.2.2).2.2, (wtakeF x.1.2.2.1 x.2.2).2.1, (↑(List.length (wtakeF x.1.2.2.1 x.2.2).2.1) : Int), (0 : Int), PUnit.unit), x.1, x.2.1, ((0 : Int), [], ((0 : Int), []), []), (x.1.1, x.1.2.1, (wtakeF x.1.2.2.1 x.2.2).1, x.1.2.2.2), [], PUnit.unit)).2.2.2.2.2.1.2.2.1)).2)).2).1, (runF hrStp (hrMu (([], (0 : Int), (wtakeF x.1.2.2.1 x.2.2).2.2, (wtakeF x.1.2.2.1 x.2.2).2.1, (↑(List.length (wtakeF x.1.2.2.1 x.2.2).2.1) : Int), (0 : Int), PUnit.unit), x.1, x.2.1, ((0 : Int), [], ((0 : Int), []), []), (x.1.1, x.1.2.1, (wtakeF x.1.2.2.1 x.2.2).1, x.1.2.2.2), [], PUnit.unit) + (1 : Nat)) (([], (0 : Int), (wtakeF x.1.2.2.1 x.2.2).2.2, (wtakeF x.1.2.2.1 x.2.2).2.1, (↑(List.length (wtakeF x.1.2.2.1 x.2.2).2.1) : Int), (0 : Int), PUnit.unit), x.1, x.2.1, ((0 : Int), [], ((0 : Int), []), []), (x.1.1, x.1.2.1, (wtakeF x.1.2.2.1 x.2.2).1, x.1.2.2.2), [], PUnit.unit)).2.2.2.2.2.2.1, (runF hrStp (hrMu (([], (0 : Int), (wtakeF x.1.2.2.1 x.2.2).2.2, (wtakeF x.1.2.2.1 x.2.2).2.1, (↑(List.length (wtakeF x.1.2.2.1 x.2.2).2.1) : Int), (0 : Int), PUnit.unit), x.1, x.2.1, ((0 : Int), [], ((0 : Int), []), []), (x.1.1, x.1.2.1, (wtakeF x.1.2.2.1 x.2.2).1, x.1.2.2.2), [], PUnit.unit) + (1 : Nat)) (([], (0 : Int), (wtakeF x.1.2.2.1 x.2.2).2.2, (wtakeF x.1.2.2.1 x.2.2).2.1, (↑(List.length (wtakeF x.1.2.2.1 x.2.2).2.1) : Int), (0 : Int), PUnit.unit), x.1, x.2.1, ((0 : Int), [], ((0 : Int), []), []), (x.1.1, x.1.2.1, (wtakeF x.1.2.2.1 x.2.2).1, x.1.2.2.2), [], PUnit.unit)).2.1.2.2.1)))))))) := by kernel_rfl
theorem hrStp_ends (x : HrS) : (hrStp x).1 = .normal ∨ (hrStp x).1 = .exit 0 ∨ (hrStp x).1 = .ret := by
  unfold hrStp
  cases decide (x.1.2.2.2.2.2.1 < x.1.2.2.2.2.1) <;> cases (hrG x).2.2.2 != (0 : Int) <;> simp
theorem hr_go {x : HrS} (hp : hrPre x) (hn : (hrStp x).1 = .normal) : hrPre (hrStp x).2 ∧ hrMu (hrStp x).2 < hrMu x := by
  obtain ⟨h1, h2, h3, h4, h5⟩ := hp
  unfold hrStp at hn ⊢
  cases hlt : decide (x.1.2.2.2.2.2.1 < x.1.2.2.2.2.1) with
  | false => rw [hlt] at hn; cases hn
  | true =>
    have hlt' := of_decide_eq_true hlt
    cases he : (hrG x).2.2.2 != (0 : Int) with
    | true => rw [hlt, he] at hn; cases hn
    | false =>
      simp only [cond_true, cond_false]
      have hl : ((bif (hrG x).2.2.1 then x.2.2.2.2.2.1 ++ [(hrG x).2.1] else x.2.2.2.2.2.1).length : Int) ≤ x.1.2.2.2.2.2.1 + 1 := by
        cases (hrG x).2.2.1 with
        | true => rw [cond_true, List.length_append, List.length_singleton]; omega
        | false => rw [cond_false]; omega
      exact ⟨⟨by show 0 ≤ x.1.2.2.2.2.2.1 + 1; omega, by show x.1.2.2.2.2.2.1 + 1 ≤ x.1.2.2.2.2.1; omega, h3, h4, hl⟩, by show (x.1.2.2.2.2.1 - (x.1.2.2.2.2.2.1 + 1)).toNat < (x.1.2.2.2.2.1 - x.1.2.2.2.2.2.1).toNat; omega⟩
theorem hr_loop : LoopOK (mkC tys hearG [(0, hrD.spec)]) hrD.spec (loopB 0 (bodyOf (fnOf Tryz.prog 32))) :=
  loopF2_ok (id := 0) (D := hrD) (fun x => congrFun hr_round x) hrStp hrMu (fun _ => rfl) hrStp_ends fun (x : HrS) hp => by
    refine ⟨?_, fun hn => hr_go hp hn⟩
    obtain ⟨h1, h2, h3, h4, h5⟩ := hp
    have hz : ((0 : Int), (((0 : Int), (0 : Int)), (0 : Int), (0 : Int)), (0 : Int), false, ([] : List DItem)) = part0 := rfl
    simp only [Tree.holds, hz]
    unfold hrStp hrG
    refine ⟨fun h => ?_, fun h => by rw [h]; rfl⟩
    have hlt := of_decide_eq_true h
    refine ⟨⟨h1, by omega⟩, fun g => by rw [h, g]; rfl, fun g => ⟨fun _ => by omega, ?_⟩⟩
    rw [h, g, i64_id (n := x.1.2.2.2.2.2.1 + 1) (by omega) (by omega)]
    rfl
theorem hr_run : ∀ (n : Nat) (x : HrS), hrPre x → hrMu x < n →
    ((runF hrStp n x).1 = .ret ∧ (gatherGo x.2.2.2.2.1.2.2.2 x.2.2.2.2.2.1 (x.1.2.2.2.1.drop x.1.2.2.2.2.2.1.toNat)).2.2 ≠ 0 ∧ (runF hrStp n x).2.1.1 = [] ∧ (runF hrStp n x).2.1.2.1 = (gatherGo x.2.2.2.2.1.2.2.2 x.2.2.2.2.2.1 (x.1.2.2.2.1.drop x.1.2.2.2.2.2.1.toNat)).2.2 ∧ (runF hrStp n x).2.2.2.2.1 = x.2.1) ∨
    ((gatherGo x.2.2.2.2.1.2.2.2 x.2.2.2.2.2.1 (x.1.2.2.2.1.drop x.1.2.2.2.2.2.1.toNat)).2.2 = 0 ∧ runF hrStp n x = (.exit 0, ((x.1.1, x.1.2.1, x.1.2.2.1, x.1.2.2.2.1, x.1.2.2.2.2.1, x.1.2.2.2.2.1, ()), (x.2.1, x.2.2.1, x.2.2.2.1, (x.2.2.2.2.1.1, x.2.2.2.2.1.2.1, x.2.2.2.2.1.2.2.1, (gatherGo x.2.2.2.2.1.2.2.2 x.2.2.2.2.2.1 (x.1.2.2.2.1.drop x.1.2.2.2.2.2.1.toNat)).1), (gatherGo x.2.2.2.2.1.2.2.2 x.2.2.2.2.2.1 (x.1.2.2.2.1.drop x.1.2.2.2.2.2.1.toNat)).2.1, ()))))
  | 0, _, _, h => by omega
  | n + 1, x, hp, hn => by
    obtain ⟨h1, h2, h3, h4, h5⟩ := id hp
    cases hlt : decide (x.1.2.2.2.2.2.1 < x.1.2.2.2.2.1) with
    | false =>
      have hlt' := of_decide_eq_false hlt
      have e : hrStp x = (.exit 0, x) := by unfold hrStp; rw [hlt]; rfl
      have hd : x.1.2.2.2.1.drop x.1.2.2.2.2.2.1.toNat = [] := List.drop_eq_nil_of_le (by omega)
      rw [runF_end (by rw [e]; simp), e, hd]
      refine .inr ⟨rfl, ?_⟩
      have hi : x.1.2.2.2.2.1 = x.1.2.2.2.2.2.1 := by omega
      clear h1 h2 h3 h4 h5 hp hn hlt hlt' e hd
      obtain ⟨⟨a1, a2, a3, a4, len, i, ⟨⟩⟩, b3, b4, b6, b13, ms, ⟨⟩⟩ := x
      simp only at hi
      subst hi
      rfl
    | true =>
      have hlt' := of_decide_eq_true hlt
      have hd := drop_elt (l := x.1.2.2.2.1) part0 h1 (by omega)
      cases he : (hrG x).2.2.2 != (0 : Int) with
      | true =>
        have e : hrStp x = (.ret, (([], (hrG x).2.2.2, x.1.2.2), (x.2.1, x.2.2.1, x.2.1, x.2.2.2.2))) := by unfold hrStp; rw [hlt, he]; rfl
        rw [runF_end (by rw [e]; simp), e, hd, gatherGo]
        have he' : (gatherF x.2.2.2.2.1.2.2.2 (x.1.2.2.2.1.getD x.1.2.2.2.2.2.1.toNat part0)).2.2.2 != (0 : Int) := he
        rw [he']
        exact .inl ⟨rfl, by simpa using he', rfl, rfl, rfl⟩
      | false =>
        have e : hrStp x = (.normal, ((x.1.1, x.1.2.1, x.1.2.2.1, x.1.2.2.2.1, x.1.2.2.2.2.1, x.1.2.2.2.2.2.1 + 1, ()), (x.2.1, x.2.2.1, x.2.2.2.1, (x.2.2.2.2.1.1, x.2.2.2.2.1.2.1, x.2.2.2.2.1.2.2.1, (hrG x).1), (bif (hrG x).2.2.1 then x.2.2.2.2.2.1 ++ [(hrG x).2.1] else x.2.2.2.2.2.1), ()))) := by unfold hrStp; rw [hlt, he]; rfl
        obtain ⟨g1, g2⟩ := hr_go hp (by rw [e])
        have ih := hr_run n _ g1 (by omega)
        rw [e] at ih
        have he' : ((gatherF x.2.2.2.2.1.2.2.2 (x.1.2.2.2.1.getD x.1.2.2.2.2.2.1.toNat part0)).2.2.2 != (0 : Int)) = false := he
        rw [runF_go e, hd, gatherGo, he', cond_false]
        exact ih
theorem put_len (l : List DPart) (p : DPart) : (putF l p).length = l.length + 1 := by
  have e : (l.takeWhile (ptB p)).length + (l.dropWhile (ptB p)).length = l.length := by
    rw [← List.length_append, List.takeWhile_append_dropWhile]
  unfold putF
  rw [List.length_append, List.length_cons]
  have : (l.takeWhile (ptB p)).length + ((l.dropWhile (ptB p)).length + 1) = l.length + 1 := by omega
  exact this
theorem turn_len : ∀ (l : List DPart) (n : Int), (turnF n l).2.1.length ≤ l.length ∧ (turnF n l).2.2.length ≤ l.length
  | [], n => by simp [turnF]
  | x :: l, n => by
    rw [turnF]
    cases x.2.2.1 != n with
    | true => simp
    | false =>
      have := turn_len l (n + 1)
      simp only [cond_false, List.length_cons]
      omega
theorem wtake_len (w : DWin) (p : DPart) : (wtakeF w p).2.1.length ≤ w.2.length + 1 ∧ (wtakeF w p).1.2.length ≤ w.2.length + 1 := by
  unfold wtakeF
  have h1 := turn_len (putF w.2 p) w.1
  rw [put_len] at h1
  cases (bif !pokF p then true else !nearF w.1) with
  | true => simp
  | false =>
    cases decide (p.2.2.1 < w.1) with
    | true => simp
    | false =>
      cases !nearS p.2.2.1 w.1 with
      | true => simp
      | false =>
        cases (seqsF w).any (fun n => n == p.2.2.1) with
        | true => simp
        | false => simpa using h1
theorem hear_ok : CtrOK Tryz.prog 32 hearC :=
  fun_ok (G := hearG) (Λ := [(0, hrD.spec)]) tysOK hearG_ok mixed (by kernel_rfl) (by kernel_rfl) (by kernel_rfl) (by kernel_rfl) (lp_cons hr_loop lp_nil) fun (x : DMrl × DHello × DPart) hw hp => by
    have hpre : takePre (x.1.2.2.1, x.2.2) := hp (fun (x : DMrl × DHello × DPart) => takePre (x.1.2.2.1, x.2.2)) rfl
    rw [congrFun hear_tree x]
    have e : hearC.fn x = hearF x.1 x.2.1 x.2.2 := rfl
    rw [e]
    have hlen := wtake_len x.1.2.2.1 x.2.2
    have hl0 : x.1.2.2.1.2.length ≤ 1000 := hpre.1
    unfold hearF
    generalize wtakeF x.1.2.2.1 x.2.2 = T at hlen ⊢
    simp only [Tree.holds]
    refine ⟨hpre, fun h => by rw [h]; rfl, fun h => ?_⟩
    have hP : hrPre (([], (0 : Int), T.2.2, T.2.1, (T.2.1.length : Int), (0 : Int), PUnit.unit), x.1, x.2.1, ((0 : Int), [], ((0 : Int), []), []), (x.1.1, x.1.2.1, T.1, x.1.2.2.2), [], PUnit.unit) :=
      ⟨Int.le_refl _, by show (0 : Int) ≤ (T.2.1.length : Int); omega, rfl, by show (T.2.1.length : Int) ≤ 100000; omega, Int.le_refl _⟩
    have key := hr_run _ _ hP (Nat.lt_succ_self _)
    refine ⟨hP, ?_⟩
    rw [h, cond_false]
    have hd : T.2.1.drop (0 : Int).toNat = T.2.1 := rfl
    simp only [hd] at key
    generalize runF hrStp _ _ = W at key ⊢
    rcases key with ⟨k1, k2, k3, k4, k5⟩ | ⟨k1, k2⟩
    · rw [k1, k3, k4, k5]
      refine ⟨fun _ => ?_, fun g => by cases g⟩
      have : ((gatherGo x.1.2.2.2 [] T.2.1).2.2 != (0 : Int)) = true := by simpa using k2
      rw [this]; rfl
    · subst k2
      refine ⟨fun g => (by cases g), fun _ => ⟨by show T.1.2.length ≤ 100000; omega, ?_⟩⟩
      have : ((gatherGo x.1.2.2.2 [] T.2.1).2.2 != (0 : Int)) = false := by rw [k1]; rfl
      rw [this, cond_false]
      unfold fackF
      exact ⟨fun g => by rw [g]; rfl, fun g => by rw [g]; rfl⟩
end Go.Ev.Z
/- A link's plain parts. -/
set_option linter.unusedVariables false
set_option linter.unusedSimpArgs false
namespace Go.Ev.Z
open Go.Proofs Go.Conc
def shpairC : Ctr := { args := [gPort], res := [gPair], pre := none, fn := fun (x : DPort) => (x.2.1, x.2.2.1) }
def shpairG : List (Nat × Ctr) := []
theorem shpair_tree : (fun x : DPort => evFn (mkC tys shpairG []) (fnOf Tryz.prog 8) (resL shpairC.args x) shpairC.res) = (fun x => Tree.leaf (x.2.1, x.2.2.1)) := by kernel_rfl
theorem shpair_ok : CtrOK Tryz.prog 8 shpairC :=
  fun_ok (G := shpairG) (Λ := []) tysOK ctrs_nil mixed (by kernel_rfl) (by kernel_rfl) (by kernel_rfl) (by kernel_rfl) lp_nil fun (x : DPort) hw _ => by
    rw [congrFun shpair_tree x]
    exact holds_val (d := shpairC.fn x) (by kernel_rfl) (by simp [Tree.safe])
def shnewC : Ctr := { args := [], res := [gPort], pre := none, fn := fun (x : Unit) => ((0, (0, 0), (0, 0), 0, 0, noMrl) : DPort) }
def shnewG : List (Nat × Ctr) := [(66, mnewC)]
theorem shnew_tree : (fun x : Unit => evFn (mkC tys shnewG []) (fnOf Tryz.prog 37) (resL shnewC.args x) shnewC.res) = (fun x => Tree.leaf ((0 : Int), ((0 : Int), (0 : Int)), ((0 : Int), (0 : Int)), (0 : Int), (0 : Int), (0 : Int), [], ((0 : Int), []), [])) := by kernel_rfl
theorem shnew_ok : CtrOK Tryz.prog 37 shnewC :=
  fun_ok (G := shnewG) (Λ := []) tysOK (ctrs_cons mnew_ok ctrs_nil) mixed (by kernel_rfl) (by kernel_rfl) (by kernel_rfl) (by kernel_rfl) lp_nil fun (x : Unit) hw _ => by
    rw [congrFun shnew_tree x]
    exact holds_val (d := shnewC.fn x) (by kernel_rfl) (by simp [Tree.safe])
def shbeginC : Ctr := { args := [gPort, gE, gE], res := [gPort], pre := none, fn := fun (x : DPort × (Int × Int) × (Int × Int)) => ((1, x.2.1, x.2.2, 0, 0, noMrl) : DPort) }
def shbeginG : List (Nat × Ctr) := [(66, mnewC)]
theorem shbegin_tree : (fun x : DPort × (Int × Int) × (Int × Int) => evFn (mkC tys shbeginG []) (fnOf Tryz.prog 38) (resL shbeginC.args x) shbeginC.res) = (fun x => Tree.leaf ((1 : Int), x.2.1, x.2.2, (0 : Int), (0 : Int), (0 : Int), [], ((0 : Int), []), [])) := by kernel_rfl
theorem shbegin_ok : CtrOK Tryz.prog 38 shbeginC :=
  fun_ok (G := shbeginG) (Λ := []) tysOK (ctrs_cons mnew_ok ctrs_nil) mixed (by kernel_rfl) (by kernel_rfl) (by kernel_rfl) (by kernel_rfl) lp_nil fun (x : DPort × (Int × Int) × (Int × Int)) hw _ => by
    rw [congrFun shbegin_tree x]
    exact holds_val (d := shbeginC.fn x) (by kernel_rfl) (by simp [Tree.safe])
def holdsC : Ctr := { args := [gPort, gPair], res := [.bool], pre := none, fn := fun (x : DPort × DPair) => (bif x.1.1 == (2 : Int) then sameF (x.1.2.1, x.1.2.2.1) x.2 else false) }
def holdsG : List (Nat × Ctr) := [(8, shpairC), (24, sameC)]
theorem holds_tree : (fun x : DPort × DPair => evFn (mkC tys holdsG []) (fnOf Tryz.prog 7) (resL holdsC.args x) holdsC.res) = (fun x => Tree.leaf (bif x.1.1 == (2 : Int) then sameF (x.1.2.1, x.1.2.2.1) x.2 else false)) := by kernel_rfl
theorem holds_ok : CtrOK Tryz.prog 7 holdsC :=
  fun_ok (G := holdsG) (Λ := []) tysOK (ctrs_cons shpair_ok (ctrs_cons same_ok ctrs_nil)) mixed (by kernel_rfl) (by kernel_rfl) (by kernel_rfl) (by kernel_rfl) lp_nil fun (x : DPort × DPair) hw _ => by
    rw [congrFun holds_tree x]
    exact holds_val (d := holdsC.fn x) (by kernel_rfl) (by simp [Tree.safe])
def lopenC : Ctr := { args := [gE], res := [gPort], pre := none, fn := fun (x : Int × Int) => ((1, x, (0, 0), 0, 0, noMrl) : DPort) }
def lopenG : List (Nat × Ctr) := [(37, shnewC), (38, shbeginC)]
theorem lopen_tree : (fun x : Int × Int => evFn (mkC tys lopenG []) (fnOf Tryz.prog 19) (resL lopenC.args x) lopenC.res) = (fun x => Tree.leaf ((1 : Int), x, ((0 : Int), (0 : Int)), (0 : Int), (0 : Int), (0 : Int), [], ((0 : Int), []), [])) := by kernel_rfl
theorem lopen_ok : CtrOK Tryz.prog 19 lopenC :=
  fun_ok (G := lopenG) (Λ := []) tysOK (ctrs_cons shnew_ok (ctrs_cons shbegin_ok ctrs_nil)) mixed (by kernel_rfl) (by kernel_rfl) (by kernel_rfl) (by kernel_rfl) lp_nil fun (x : Int × Int) hw _ => by
    rw [congrFun lopen_tree x]
    exact holds_val (d := lopenC.fn x) (by kernel_rfl) (by simp [Tree.safe])
def lcloseC : Ctr := { args := [gPort], res := [gPort], pre := none, fn := fun (x : DPort) => ((0, (0, 0), (0, 0), 0, 0, noMrl) : DPort) }
def lcloseG : List (Nat × Ctr) := [(37, shnewC)]
theorem lclose_tree : (fun x : DPort => evFn (mkC tys lcloseG []) (fnOf Tryz.prog 20) (resL lcloseC.args x) lcloseC.res) = (fun x => Tree.leaf ((0 : Int), ((0 : Int), (0 : Int)), ((0 : Int), (0 : Int)), (0 : Int), (0 : Int), (0 : Int), [], ((0 : Int), []), [])) := by kernel_rfl
theorem lclose_ok : CtrOK Tryz.prog 20 lcloseC :=
  fun_ok (G := lcloseG) (Λ := []) tysOK (ctrs_cons shnew_ok ctrs_nil) mixed (by kernel_rfl) (by kernel_rfl) (by kernel_rfl) (by kernel_rfl) lp_nil fun (x : DPort) hw _ => by
    rw [congrFun lclose_tree x]
    exact holds_val (d := lcloseC.fn x) (by kernel_rfl) (by simp [Tree.safe])
def greetC : Ctr := { args := [gPort, .int .i64], res := [gHello], pre := none, fn := fun (x : DPort × Int) => (x.2, (x.1.2.1, x.1.2.2.1)) }
def greetG : List (Nat × Ctr) := [(8, shpairC)]
theorem greet_tree : (fun x : DPort × Int => evFn (mkC tys greetG []) (fnOf Tryz.prog 26) (resL greetC.args x) greetC.res) = (fun x => Tree.leaf (x.2, x.1.2.1, x.1.2.2.1)) := by kernel_rfl
theorem greet_ok : CtrOK Tryz.prog 26 greetC :=
  fun_ok (G := greetG) (Λ := []) tysOK (ctrs_cons shpair_ok ctrs_nil) mixed (by kernel_rfl) (by kernel_rfl) (by kernel_rfl) (by kernel_rfl) lp_nil fun (x : DPort × Int) hw _ => by
    rw [congrFun greet_tree x]
    exact holds_val (d := greetC.fn x) (by kernel_rfl) (by simp [Tree.safe])
def lagainG : List (Nat × Ctr) := [(36, nextC), (37, shnewC), (38, shbeginC)]
theorem lagainG_ok : CtrsOK Tryz.prog (fun f => lk f lagainG) := (ctrs_cons next_ok (ctrs_cons shnew_ok (ctrs_cons shbegin_ok ctrs_nil)))
theorem lagain_tree : (fun x : DPort × (Int × Int) => evFn (mkC tys lagainG []) (fnOf Tryz.prog 17) (resL [gPort, gE] x) [gPort, .int .i64]) = (fun x => Tree.br ((nextF x.1.2.1).2 != (0 : Int)) (Tree.leaf (((0 : Int), ((0 : Int), (0 : Int)), ((0 : Int), (0 : Int)), (0 : Int), (0 : Int), (0 : Int), [], ((0 : Int), []), []), (nextF x.1.2.1).2)) (Tree.leaf (((1 : Int), (nextF x.1.2.1).1, x.2, (0 : Int), (0 : Int), (0 : Int), [], ((0 : Int), []), []), (0 : Int)))) := by kernel_rfl
def shhearG : List (Nat × Ctr) := [(71, hokC), (73, newerC), (4, noneC)]
theorem shhearG_ok : CtrsOK Tryz.prog (fun f => lk f shhearG) := (ctrs_cons hok_ok (ctrs_cons newer_ok (ctrs_cons none_ok ctrs_nil)))
theorem shhear_tree : (fun x : DPort × DHello => evFn (mkC tys shhearG []) (fnOf Tryz.prog 43) (resL [gPort, gHello] x) [gPort, .int .i64]) = (fun x => Tree.br (bif x.1.1 == (0 : Int) then true else !hokF x.2) (Tree.leaf (x.1, (0 : Int))) (Tree.br (newerF x.1.2.2.1 x.2.2.1) (Tree.leaf (x.1, (3 : Int))) (Tree.br (x.1.1 == (2 : Int)) (Tree.br (newerF x.2.2.1 x.1.2.2.1) (Tree.leaf (x.1, (2 : Int))) (Tree.br (bif bif x.1.1 != (1 : Int) then true else !geq (GTy.prod (GTy.int IntKind.u32) (GTy.int IntKind.u32)) x.2.2.2 x.1.2.1 then true else noneF x.1.2.1) (Tree.leaf ((x.1.1, x.1.2.1, x.2.2.1, (0 : Int), x.1.2.2.2.2), (0 : Int))) (Tree.leaf (((2 : Int), x.1.2.1, x.2.2.1, (0 : Int), x.1.2.2.2.2), (1 : Int))))) (Tree.br (bif bif x.1.1 != (1 : Int) then true else !geq (GTy.prod (GTy.int IntKind.u32) (GTy.int IntKind.u32)) x.2.2.2 x.1.2.1 then true else noneF x.1.2.1) (Tree.leaf ((x.1.1, x.1.2.1, x.2.2.1, (0 : Int), x.1.2.2.2.2), (0 : Int))) (Tree.leaf (((2 : Int), x.1.2.1, x.2.2.1, (0 : Int), x.1.2.2.2.2), (1 : Int))))))) := by kernel_rfl
def hreadG : List (Nat × Ctr) := [(60, takeC), (59, readC), (71, hokC), (72, prestC)]
theorem hreadG_ok : CtrsOK Tryz.prog (fun f => lk f hreadG) := (ctrs_cons take_ok (ctrs_cons read_ok (ctrs_cons hok_ok (ctrs_cons prest_ok ctrs_nil))))
theorem hread_tree : (fun x : List UInt8 => evFn (mkC tys hreadG []) (fnOf Tryz.prog 42) (resL [.str] x) [gHello, .int .i64]) = (fun x => Tree.br (decide ((↑(List.length x) : Int) < (17 : Int))) (Tree.leaf (((0 : Int), ((0 : Int), (0 : Int)), (0 : Int), (0 : Int)), (2 : Int))) (Tree.br ((takeF x (1 : Int)).2.2 != (0 : Int)) (Tree.leaf (((0 : Int), ((0 : Int), (0 : Int)), (0 : Int), (0 : Int)), (takeF x (1 : Int)).2.2)) (Tree.br ((readF (takeF x (1 : Int)).2.1).2.2 != (0 : Int)) (Tree.leaf (((0 : Int), ((0 : Int), (0 : Int)), (0 : Int), (0 : Int)), (readF (takeF x (1 : Int)).2.1).2.2)) (Tree.br (bif !hokF (IntKind.wrap IntKind.i64 (takeF x (1 : Int)).1, (readF (takeF x (1 : Int)).2.1).1) then true else (bif decide ((↑(List.length (readF (takeF x (1 : Int)).2.1).2.1) : Int) > (0 : Int)) then (3 : Int) else (0 : Int)) != (0 : Int)) (Tree.leaf (((0 : Int), ((0 : Int), (0 : Int)), (0 : Int), (0 : Int)), (3 : Int))) (Tree.leaf ((IntKind.wrap IntKind.i64 (takeF x (1 : Int)).1, (readF (takeF x (1 : Int)).2.1).1), (0 : Int))))))) := by kernel_rfl
def lpartG : List (Nat × Ctr) := [(7, holdsC), (32, hearC), (26, greetC), (33, heardC)]
theorem lpartG_ok : CtrsOK Tryz.prog (fun f => lk f lpartG) := (ctrs_cons holds_ok (ctrs_cons hear_ok (ctrs_cons greet_ok (ctrs_cons heard_ok ctrs_nil))))
theorem lpart_tree : (fun x : DPort × Int × DPart => evFn (mkC tys lpartG []) (fnOf Tryz.prog 13) (resL [gPort, .int .i64, gPart] x) [gPort, .sl .str, .sl (.sl gItem), .int .i64]) = (fun x => Tree.br (!bif x.1.1 == (2 : Int) then sameF (x.1.2.1, x.1.2.2.1) x.2.2.2.1 else false) (Tree.leaf (x.1, [], [], (6 : Int))) (Tree.need (takePre (x.1.2.2.2.2.2.2.2.1, x.2.2)) (Tree.br (bif (hearF x.1.2.2.2.2.2 (x.2.1, x.1.2.1, x.1.2.2.1) x.2.2).2.2.2 != (0 : Int) then (hearF x.1.2.2.2.2.2 (x.2.1, x.1.2.1, x.1.2.2.1) x.2.2).2.2.2 != (6 : Int) else false) (Tree.leaf (x.1, [], [], (hearF x.1.2.2.2.2.2 (x.2.1, x.1.2.1, x.1.2.2.1) x.2.2).2.2.2)) (Tree.leaf ((x.1.1, x.1.2.1, x.1.2.2.1, (0 : Int), x.1.2.2.2.2.1, (hearF x.1.2.2.2.2.2 (x.2.1, x.1.2.1, x.1.2.2.1) x.2.2).1), [(hearF x.1.2.2.2.2.2 (x.2.1, x.1.2.1, x.1.2.2.1) x.2.2).2.1], (hearF x.1.2.2.2.2.2 (x.2.1, x.1.2.1, x.1.2.2.1) x.2.2).2.2.1, (hearF x.1.2.2.2.2.2 (x.2.1, x.1.2.1, x.1.2.2.1) x.2.2).2.2.2))))) := by kernel_rfl
def lackG : List (Nat × Ctr) := [(7, holdsC), (35, mackedC), (33, heardC)]
theorem lackG_ok : CtrsOK Tryz.prog (fun f => lk f lackG) := (ctrs_cons holds_ok (ctrs_cons macked_ok (ctrs_cons heard_ok ctrs_nil)))
theorem lack_tree : (fun x : DPort × DAck => evFn (mkC tys lackG []) (fnOf Tryz.prog 15) (resL [gPort, gAck] x) [gPort, .int .i64]) = (fun x => Tree.br (!bif x.1.1 == (2 : Int) then sameF (x.1.2.1, x.1.2.2.1) x.2.2.1 else false) (Tree.leaf (x.1, (6 : Int))) (Tree.need (List.length x.1.2.2.2.2.2.2.1 ≤ (100000 : Nat)) (Tree.leaf ((x.1.1, x.1.2.1, x.1.2.2.1, (0 : Int), x.1.2.2.2.2.1, x.1.2.2.2.2.2.1, List.filter (fun x_1 => !bif decide (x_1.1 < x.2.2.2.1) then true else bif decide (x.2.2.2.1 < (0 : Int)) then false else bif decide (x_1.1 > (65535 : Int)) then false else bif decide (x_1.1 - x.2.2.2.1 ≥ (8 : Int)) then false else bitsOp BinOp.and IntKind.i64 x.2.2.2.2 (List.getD [(1 : Int), (2 : Int), (4 : Int), (8 : Int), (16 : Int), (32 : Int), (64 : Int), (128 : Int)] (Int.toNat (x_1.1 - x.2.2.2.1)) (0 : Int)) != (0 : Int)) x.1.2.2.2.2.2.2.1, x.1.2.2.2.2.2.2.2), (0 : Int))))) := by kernel_rfl
def lsendG : List (Nat × Ctr) := [(25, sendC), (26, greetC)]
theorem lsendG_ok : CtrsOK Tryz.prog (fun f => lk f lsendG) := (ctrs_cons send_ok (ctrs_cons greet_ok ctrs_nil))
theorem lsend_tree : (fun x : DPort × Int × List DItem × DRules => evFn (mkC tys lsendG []) (fnOf Tryz.prog 9) (resL [gPort, .int .i64, .sl gItem, gRules] x) [gPort, .sl .str, .int .i64]) = (fun x => Tree.br (x.1.1 != (2 : Int)) (Tree.leaf (x.1, [], (7 : Int))) (Tree.need (sendP (x.1.2.2.2.2.2, (x.2.1, x.1.2.1, x.1.2.2.1), x.2.2.1, x.2.2.2)) (Tree.br ((sendF x.1.2.2.2.2.2 (x.2.1, x.1.2.1, x.1.2.2.1) x.2.2.1 x.2.2.2).2.2 != (0 : Int)) (Tree.leaf (x.1, [], (sendF x.1.2.2.2.2.2 (x.2.1, x.1.2.1, x.1.2.2.1) x.2.2.1 x.2.2.2).2.2)) (Tree.leaf ((x.1.1, x.1.2.1, x.1.2.2.1, x.1.2.2.2.1, x.1.2.2.2.2.1, (sendF x.1.2.2.2.2.2 (x.2.1, x.1.2.1, x.1.2.2.1) x.2.2.1 x.2.2.2).1), (sendF x.1.2.2.2.2.2 (x.2.1, x.1.2.1, x.1.2.2.1) x.2.2.1 x.2.2.2).2.1, (0 : Int)))))) := by kernel_rfl
end Go.Ev.Z
/- A link's plain parts: what they answer. -/
set_option linter.unusedVariables false
set_option linter.unusedSimpArgs false
namespace Go.Ev.Z
open Go.Proofs Go.Conc
def lagainC : Ctr := { args := [gPort, gE], res := [gPort, .int .i64], pre := none, fn := fun (x : DPort × (Int × Int)) => lagainF x.1 x.2 }
theorem lagain_ok : CtrOK Tryz.prog 17 lagainC :=
  fun_ok (G := lagainG) (Λ := []) tysOK lagainG_ok mixed (by kernel_rfl) (by kernel_rfl) (by kernel_rfl) (by kernel_rfl) lp_nil fun (x : DPort × (Int × Int)) hw _ => by
    show (evFn (mkC tys lagainG []) (fnOf Tryz.prog 17) (resL [gPort, gE] x) [gPort, .int .i64]).holds (fun y => y = lagainF x.1 x.2)
    rw [congrFun lagain_tree x]
    unfold lagainF
    exact ⟨fun h => by rw [h]; rfl, fun h => by rw [h]; rfl⟩
def lsendP (x : DPort × Int × List DItem × DRules) : Prop := sendP (x.1.2.2.2.2.2, (x.2.1, x.1.2.1, x.1.2.2.1), x.2.2.1, x.2.2.2)
def lsendC : Ctr := { args := [gPort, .int .i64, .sl gItem, gRules], res := [gPort, .sl .str, .int .i64], pre := some lsendP, fn := fun (x : DPort × Int × List DItem × DRules) => lsendF x.1 x.2.1 x.2.2.1 x.2.2.2 }
theorem lsend_ok : CtrOK Tryz.prog 9 lsendC :=
  fun_ok (G := lsendG) (Λ := []) tysOK lsendG_ok mixed (by kernel_rfl) (by kernel_rfl) (by kernel_rfl) (by kernel_rfl) lp_nil fun (x : DPort × Int × List DItem × DRules) hw hp => by
    have hq : lsendP x := hp lsendP rfl
    show (evFn (mkC tys lsendG []) (fnOf Tryz.prog 9) (resL [gPort, .int .i64, .sl gItem, gRules] x) [gPort, .sl .str, .int .i64]).holds (fun y => y = lsendF x.1 x.2.1 x.2.2.1 x.2.2.2)
    rw [congrFun lsend_tree x]
    unfold lsendF
    exact ⟨fun h => by rw [h]; rfl, fun h => ⟨hq, fun g => by rw [h, g]; rfl, fun g => by rw [h, g]; rfl⟩⟩
def lpartP (x : DPort × Int × DPart) : Prop := takePre (x.1.2.2.2.2.2.2.2.1, x.2.2)
def lpartC : Ctr := { args := [gPort, .int .i64, gPart], res := [gPort, .sl .str, .sl (.sl gItem), .int .i64], pre := some lpartP, fn := fun (x : DPort × Int × DPart) => lpartF x.1 x.2.1 x.2.2 }
theorem lpart_ok : CtrOK Tryz.prog 13 lpartC :=
  fun_ok (G := lpartG) (Λ := []) tysOK lpartG_ok mixed (by kernel_rfl) (by kernel_rfl) (by kernel_rfl) (by kernel_rfl) lp_nil fun (x : DPort × Int × DPart) hw hp => by
    have hq : lpartP x := hp lpartP rfl
    show (evFn (mkC tys lpartG []) (fnOf Tryz.prog 13) (resL [gPort, .int .i64, gPart] x) [gPort, .sl .str, .sl (.sl gItem), .int .i64]).holds (fun y => y = lpartF x.1 x.2.1 x.2.2)
    rw [congrFun lpart_tree x]
    unfold lpartF
    exact ⟨fun h => by rw [h]; rfl, fun h => ⟨hq, fun g => by rw [h, g]; rfl, fun g => by rw [h, g]; rfl⟩⟩
end Go.Ev.Z
/- A link's plain parts: what is heard of the other end. -/
set_option linter.unusedVariables false
set_option linter.unusedSimpArgs false
namespace Go.Ev.Z
open Go.Proofs Go.Conc
def shhearC : Ctr := { args := [gPort, gHello], res := [gPort, .int .i64], pre := none, fn := fun (x : DPort × DHello) => shhearF x.1 x.2 }
theorem shhear_ok : CtrOK Tryz.prog 43 shhearC :=
  fun_ok (G := shhearG) (Λ := []) tysOK shhearG_ok mixed (by kernel_rfl) (by kernel_rfl) (by kernel_rfl) (by kernel_rfl) lp_nil fun (x : DPort × DHello) hw _ => by
    show (evFn (mkC tys shhearG []) (fnOf Tryz.prog 43) (resL [gPort, gHello] x) [gPort, .int .i64]).holds (fun y => y = shhearF x.1 x.2)
    rw [congrFun shhear_tree x]
    unfold shhearF upB
    refine ⟨fun h => by rw [h]; rfl, fun h => ⟨fun g => by rw [h, g]; rfl, fun g => ⟨fun k => ⟨fun m => by rw [h, g, k, m]; rfl, fun m => ⟨fun q => by rw [h, g, k, m, q]; rfl, fun q => by rw [h, g, k, m, q]; rfl⟩⟩, fun k => ⟨fun q => by rw [h, g, k, q]; rfl, fun q => by rw [h, g, k, q]; rfl⟩⟩⟩⟩
def hreadC : Ctr := { args := [.str], res := [gHello, .int .i64], pre := none, fn := fun (x : List UInt8) => hreadF x }
theorem hread_ok : CtrOK Tryz.prog 42 hreadC :=
  fun_ok (G := hreadG) (Λ := []) tysOK hreadG_ok mixed (by kernel_rfl) (by kernel_rfl) (by kernel_rfl) (by kernel_rfl) lp_nil fun (x : List UInt8) hw _ => by
    show (evFn (mkC tys hreadG []) (fnOf Tryz.prog 42) (resL [.str] x) [gHello, .int .i64]).holds (fun y => y = hreadF x)
    rw [congrFun hread_tree x]
    unfold hreadF
    exact ⟨fun h => by rw [h]; rfl, fun h => ⟨fun g => by rw [h, g]; rfl, fun g => ⟨fun k => by rw [h, g, k]; rfl, fun k => ⟨fun q => by rw [h, g, k, q]; rfl, fun q => by rw [h, g, k, q]; rfl⟩⟩⟩⟩
end Go.Ev.Z
/- A link's plain parts: an ack. -/
set_option linter.unusedVariables false
set_option linter.unusedSimpArgs false
namespace Go.Ev.Z
open Go.Proofs Go.Conc
def lackP (x : DPort × DAck) : Prop := x.1.2.2.2.2.2.2.1.length ≤ 100000
def lackC : Ctr := { args := [gPort, gAck], res := [gPort, .int .i64], pre := some lackP, fn := fun (x : DPort × DAck) => lackF x.1 x.2 }
theorem lack_ok : CtrOK Tryz.prog 15 lackC :=
  fun_ok (G := lackG) (Λ := []) tysOK lackG_ok mixed (by kernel_rfl) (by kernel_rfl) (by kernel_rfl) (by kernel_rfl) lp_nil fun (x : DPort × DAck) hw hp => by
    have hq : lackP x := hp lackP rfl
    show (evFn (mkC tys lackG []) (fnOf Tryz.prog 15) (resL [gPort, gAck] x) [gPort, .int .i64]).holds (fun y => y = lackF x.1 x.2)
    rw [congrFun lack_tree x]
    unfold lackF
    exact ⟨fun h => by rw [h]; rfl, fun h => ⟨hq, by rw [h]; rfl⟩⟩
end Go.Ev.Z
/- A link: the hello of a frame, rules, and what a node says of itself. -/
set_option linter.unusedVariables false
set_option linter.unusedSimpArgs false
namespace Go.Ev.Z
open Go.Proofs Go.Conc
def fhello22C : Ctr := { args := [gHello], res := [.str, .int .i64], pre := none, fn := fun (x : DHello) => (wrappedF 1 (helloF x).1 (helloF x).2) }
def fhello22G : List (Nat × Ctr) := [(93, hbytesC), (78, wrappedC)]
theorem fhello22_tree : (fun x : DHello => evFn (mkC tys fhello22G []) (fnOf Tryz.prog 68) (resL fhello22C.args x) fhello22C.res) = (fun x => Tree.leaf ((wrappedF (1 : Int) (helloF x).1 (helloF x).2).1, (wrappedF (1 : Int) (helloF x).1 (helloF x).2).2)) := by kernel_rfl
theorem fhello22_ok : CtrOK Tryz.prog 68 fhello22C :=
  fun_ok (G := fhello22G) (Λ := []) tysOK (ctrs_cons hbytes_ok (ctrs_cons wrapped_ok ctrs_nil)) mixed (by kernel_rfl) (by kernel_rfl) (by kernel_rfl) (by kernel_rfl) lp_nil fun (x : DHello) hw _ => by
    rw [congrFun fhello22_tree x]
    exact holds_val (d := fhello22C.fn x) (by kernel_rfl) (by simp [Tree.safe])
def rules22C : Ctr := { args := [], res := [gRules], pre := none, fn := fun (x : Unit) => ((1, 5, 2, 3) : DRules) }
def rules22G : List (Nat × Ctr) := []
theorem rules22_tree : (fun x : Unit => evFn (mkC tys rules22G []) (fnOf Tryz.prog 10) (resL rules22C.args x) rules22C.res) = (fun x => Tree.leaf ((1 : Int), (5 : Int), (2 : Int), (3 : Int))) := by kernel_rfl
theorem rules22_ok : CtrOK Tryz.prog 10 rules22C :=
  fun_ok (G := rules22G) (Λ := []) tysOK ctrs_nil mixed (by kernel_rfl) (by kernel_rfl) (by kernel_rfl) (by kernel_rfl) lp_nil fun (x : Unit) hw _ => by
    rw [congrFun rules22_tree x]
    exact holds_val (d := rules22C.fn x) (by kernel_rfl) (by simp [Tree.safe])
def saidC : Ctr := { args := [.str], res := [gHello, .bool], pre := none, fn := fun (x : List UInt8) => saidF x }
def saidG : List (Nat × Ctr) := [(30, fopenC), (42, hreadC)]
theorem said_tree : (fun x : List UInt8 => evFn (mkC tys saidG []) (fnOf Tryz.prog 22) (resL saidC.args x) saidC.res) = (fun x => Tree.leaf ((hreadF (openF x).2.1).1, bif bif (openF x).2.2 == (0 : Int) then (hreadF (openF x).2.1).2 == (0 : Int) else false then (openF x).1 == (1 : Int) else false)) := by kernel_rfl
theorem said_ok : CtrOK Tryz.prog 22 saidC :=
  fun_ok (G := saidG) (Λ := []) tysOK (ctrs_cons fopen_ok (ctrs_cons hread_ok ctrs_nil)) mixed (by kernel_rfl) (by kernel_rfl) (by kernel_rfl) (by kernel_rfl) lp_nil fun (x : List UInt8) hw _ => by
    rw [congrFun said_tree x]
    exact holds_val (d := saidC.fn x) (by kernel_rfl) (by simp [Tree.safe])
end Go.Ev.Z
/- What says hello for a node: a closure is made, and called. -/
set_option linter.unusedVariables false
set_option linter.unusedSimpArgs false
namespace Go.Ev.Z
open Go.Proofs Go.Conc
def saycG : List (Nat × Ctr) := [(26, greetC), (68, fhello22C)]
theorem saycG_ok : CtrsOK Tryz.prog (fun f => lk f saycG) := (ctrs_cons greet_ok (ctrs_cons fhello22_ok ctrs_nil))
def saycC : Ctr := { args := [gPort, .int .i64], res := [.sl .str], pre := none, fn := fun (x : DPort × Int) => sayF x.1 x.2 }
theorem sayc_tree : (fun x : DPort × Int => evFn (mkC tys saycG []) (fnOf Tryz.prog 67) [.val gPort x.1, .ref (.int .i64) x.2] [.sl .str]) = (fun x => Tree.br ((wrappedF (1 : Int) (helloF (x.2, x.1.2.1, x.1.2.2.1)).1 (helloF (x.2, x.1.2.1, x.1.2.2.1)).2).2 != (0 : Int)) (Tree.leaf []) (Tree.leaf [(wrappedF (1 : Int) (helloF (x.2, x.1.2.1, x.1.2.2.1)).1 (helloF (x.2, x.1.2.1, x.1.2.2.1)).2).1])) := by kernel_rfl
theorem sayc_ok : CloOK Tryz.prog 67 saycC :=
  clo_ok (G := saycG) tysOK saycG_ok mixed (by kernel_rfl) (by kernel_rfl) (by kernel_rfl) (by kernel_rfl) fun (x : DPort × Int) => by
    rw [congrFun sayc_tree x]
    unfold sayF
    exact ⟨fun h => by rw [h]; rfl, fun h => by rw [h]; rfl⟩
noncomputable def syL : List Code := (seqs (bodyOf (fnOf Tryz.prog 39))).dropLast
noncomputable def syS (n : Int) : St := match evL (mkC tys [] []) syL { tmps := number 0 (resL [.int .i64] n), boxes := [] } with
  | .leaf p => p.2
  | _ => { tmps := [], boxes := [] }
theorem sy_ev (n : Int) : evL (mkC tys [] []) syL { tmps := number 0 (resL [.int .i64] n), boxes := [] } = .leaf (.normal, syS n) := by kernel_rfl
theorem sy_all : seqs (bodyOf (fnOf Tryz.prog 39)) = syL ++ [.ret] := by kernel_rfl
theorem sy_2 (n : Int) : (syS n).look 2 = .clo 67 [.ptr 1 (.int .i64) []] := by kernel_rfl
theorem sy_1 (n : Int) : (lk 1 (syS n).boxes).map (·.2) = some (.var (.int .i64) n) := by kernel_rfl
theorem sy_res : (fnOf Tryz.prog 39).results = #[.tmp 2] := by kernel_rfl
theorem sy_calm : calmL 4 60 syL = true := by kernel_rfl
theorem sy_n : (fnOf Tryz.prog 39).ntmps = 4 := by kernel_rfl
def sayerC : Ctr := { args := [.int .i64], res := [.int .i64, .int .i64], pre := none, fn := fun (n : Int) => ((67 : Int), n) }
attribute [local irreducible] fnOf bodyOf syL syS
theorem sayer_calls (w : World) (S : Stab) (hS : ∀ b o, S b o → b < w.heap.size) (hT : Tab S w) {n : Int} (hn : IntKind.i64.has n) : Calls Tryz.prog 39 #[.int .i64 n] w fun e w' => Grows w w' ∧ ∃ blk, w.heap.size ≤ blk ∧ blk < w'.heap.size ∧ w'.cell? ⟨blk, 0, none⟩ = some (.int .i64 n) ∧ IntKind.i64.has n ∧ e = .returned (.func (.func 67) #[] #[.pointer (some ⟨blk, 0, none⟩)]) := by
  have hf := fnOf_eq (P := Tryz.prog) (f := 39) (by kernel_rfl)
  refine calls_of_to hf (bodyOf_eq (by kernel_rfl)) ?_
  have h0 := start_st (w := w) (S := S) (us := [.int .i64 n]) (gs := [.int .i64]) (x := n) hS hT ⟨[.int .i64 n], ⟨rfl, hn⟩, rfl⟩ (fnOf Tryz.prog 39).ntmps
  refine CodeTo.seqs ?_
  rw [sy_all]
  generalize ha : ({ tmps := #[.int .i64 n] ++ Array.replicate ((fnOf Tryz.prog 39).ntmps - #[Value.int .i64 n].size) undef, defers := [] } : Act) = a0
  have h0' : IsSt ⟨w, fun _ => False, S, hT⟩ { tmps := number 0 (resL [.int .i64] n), boxes := [] } a0 w := by rw [← ha]; exact h0
  have hsz : a0.tmps.size = 4 := by rw [← ha, sy_n]; simp
  have hd0 : a0.defers = [] := by rw [← ha]
  refine evL_to (C := mkC tys [] []) tysOK ctrs_nil mixed (F := fun p => p = (.normal, syS n)) syL _ a0 w (calmL_lam sy_calm) (fun y hy t ht => by rw [hsz]; exact (calmL_wr sy_calm y hy t ht).1) h0' ?_ ?_
  · rw [sy_ev]; rfl
  · rintro z s' a' w' hz h1 h2 h3 h4
    obtain ⟨rfl, rfl⟩ := Prod.mk.inj hz
    refine then_id (CodeTo.of_wp (wp_ret ?_))
    obtain ⟨M, rfl, hbs, I, hr⟩ := h1
    have r2 := hr 2
    rw [sy_2] at r2
    obtain ⟨vs, e2, q2⟩ := r2
    obtain ⟨⟨d, B⟩, l1, e1⟩ := Option.map_eq_some_iff.1 (sy_1 n)
    simp only at e1
    subst e1
    rw [← hbs] at l1
    obtain ⟨vl⟩ := vs
    match vl, q2 with
    | [v], q2 =>
      obtain ⟨blk, d', B', p1, p2, p3, p4⟩ := q2.1
      have e3 : offs (.int .i64) [] = 0 := rfl
      rw [e3] at p4
      subst p4
      obtain ⟨blk', cs, e, g1, g2, g3, g4, g5⟩ := I.boxes 1 d _ l1
      have e4 : blk' = blk := by rw [g1] at p3; simpa [blkOf] using p3
      subst e4
      obtain ⟨e5, e6⟩ : cs.toList = [.int .i64 n] ∧ IntKind.i64.has n := g3
      refine ⟨.inr rfl, h3.trans hd0, .func (.func 67) #[] #[.pointer (some ⟨blk', 0, none⟩)], ?_, ⟨I.os, I.tape, I.output, I.size, fun k hk => I.frame k hk id⟩, blk', g5.elim id False.elim, (Array.getElem?_eq_some_iff.1 g2).1, ?_, e6, rfl⟩
      · have k2 : (resF a'.tmps (.tmp 2)).run Tryz.prog M.w = .ok (.func (.func 67) #[] #[.pointer (some ⟨blk', 0, none⟩)]) M.w := by
          show Result.ok (a'.tmps.getD 2 undef) M.w = _
          rw [e2]
        exact results_run (us := [.func (.func 67) #[] #[.pointer (some ⟨blk', 0, none⟩)]]) (by
          rw [sy_res]
          show (List.mapM (resF a'.tmps) [.tmp 2]).run _ _ = _
          rw [List.mapM_cons, List.mapM_nil]
          simp only [Sem.run_bind, k2, Result.andThen_ok]
          rfl)
      · rw [cell_of_row M.w blk' 0 cs e (0, 0) g2, ← Array.getElem?_toList, e5]
        rfl
theorem sayer_ok : MkOK Tryz.prog 39 sayerC := by
  refine ⟨⟨fnOf Tryz.prog 39, fnOf_eq (by kernel_rfl), by kernel_rfl, by kernel_rfl⟩, fun gs pre fn hc w S us x hS hT henc hpre => ?_⟩
  unfold sayerC at hc
  cases hc
  obtain ⟨cs, h1, h2⟩ := henc
  obtain ⟨h3, h4⟩ : cs = [.int .i64 x] ∧ IntKind.i64.has x := h1
  subst h3
  have h5 : us = [.int .i64 x] := h2
  subst h5
  exact sayer_calls w S hS hT h4
end Go.Ev.Z
/- A link takes a hello; a tick goes by. -/
set_option linter.unusedVariables false
set_option linter.unusedSimpArgs false
namespace Go.Ev.Z
open Go.Proofs Go.Conc
def lhelloG : List (Nat × Ctr) := [(cloB + cloB + 39, sayerC), (cloB + 67, saycC), (43, shhearC), (17, lagainC)]
theorem lhelloG_ok : CtrsOK Tryz.prog (fun f => lk f lhelloG) := ctrs_mk sayer_ok (ctrs_clo sayc_ok (ctrs_cons shhear_ok (ctrs_cons lagain_ok ctrs_nil)))
def lhelloC : Ctr := { args := [gPort, .int .i64, gHello], res := [gPort, .sl .str, .int .i64], pre := none, fn := fun (x : DPort × Int × DHello) => lhelloF x.1 x.2.1 x.2.2 }
theorem lhello_tree : (fun x : DPort × Int × DHello => evFn (mkC tys lhelloG []) (fnOf Tryz.prog 23) (resL [gPort, .int .i64, gHello] x) [gPort, .sl .str, .int .i64]) = (fun x => Tree.br ((shhearF x.1 x.2.2).2 == (1 : Int)) (Tree.leaf ((shhearF x.1 x.2.2).1, sayF (shhearF x.1 x.2.2).1 x.2.1, (shhearF x.1 x.2.2).2)) (Tree.br ((shhearF x.1 x.2.2).2 == (2 : Int)) (Tree.br ((lagainF (shhearF x.1 x.2.2).1 x.2.2.2.1).2 != (0 : Int)) (Tree.leaf ((lagainF (shhearF x.1 x.2.2).1 x.2.2.2.1).1, [], (shhearF x.1 x.2.2).2)) (Tree.leaf ((lagainF (shhearF x.1 x.2.2).1 x.2.2.2.1).1, sayF (lagainF (shhearF x.1 x.2.2).1 x.2.2.2.1).1 x.2.1, (shhearF x.1 x.2.2).2))) (Tree.br ((shhearF x.1 x.2.2).2 == (0 : Int)) (Tree.br (bif (shhearF x.1 x.2.2).1.1 != (0 : Int) then !geq (GTy.prod (GTy.int IntKind.u32) (GTy.int IntKind.u32)) x.2.2.2.2 (shhearF x.1 x.2.2).1.2.1 else false) (Tree.leaf ((shhearF x.1 x.2.2).1, sayF (shhearF x.1 x.2.2).1 x.2.1, (shhearF x.1 x.2.2).2)) (Tree.leaf ((shhearF x.1 x.2.2).1, [], (shhearF x.1 x.2.2).2))) (Tree.leaf ((shhearF x.1 x.2.2).1, [], (shhearF x.1 x.2.2).2))))) := by kernel_rfl
theorem lhello_ok : CtrOK Tryz.prog 23 lhelloC :=
  fun_ok (G := lhelloG) (Λ := []) tysOK lhelloG_ok mixed (by kernel_rfl) (by kernel_rfl) (by kernel_rfl) (by kernel_rfl) lp_nil fun (x : DPort × Int × DHello) hw _ => by
    show (evFn (mkC tys lhelloG []) (fnOf Tryz.prog 23) (resL [gPort, .int .i64, gHello] x) [gPort, .sl .str, .int .i64]).holds (fun y => y = lhelloF x.1 x.2.1 x.2.2)
    rw [congrFun lhello_tree x]
    unfold lhelloF saysB
    exact ⟨fun h => by rw [h]; rfl, fun h => ⟨fun g => ⟨fun k => by rw [h, g, k]; rfl, fun k => by rw [h, g, k]; rfl⟩, fun g => ⟨fun k => ⟨fun m => by rw [h, g, k]; simp only [cond_true, cond_false]; exact (congrArg (fun t : Bool => bif t then ((shhearF x.1 x.2.2).1, sayF (shhearF x.1 x.2.2).1 x.2.1, (shhearF x.1 x.2.2).2) else ((shhearF x.1 x.2.2).1, [], (shhearF x.1 x.2.2).2)) m).symm, fun m => by rw [h, g, k]; simp only [cond_true, cond_false]; exact (congrArg (fun t : Bool => bif t then ((shhearF x.1 x.2.2).1, sayF (shhearF x.1 x.2.2).1 x.2.1, (shhearF x.1 x.2.2).2) else ((shhearF x.1 x.2.2).1, [], (shhearF x.1 x.2.2).2)) m).symm⟩, fun k => by rw [h, g, k]; rfl⟩⟩⟩
def ltickG : List (Nat × Ctr) := [(cloB + cloB + 39, sayerC), (cloB + 67, saycC), (40, tickC), (41, mtickC)]
theorem ltickG_ok : CtrsOK Tryz.prog (fun f => lk f ltickG) := ctrs_mk sayer_ok (ctrs_clo sayc_ok (ctrs_cons tick_ok (ctrs_cons mtick_ok ctrs_nil)))
theorem ltick_tree : (fun x : DPort × Int × DRules => evFn (mkC tys ltickG []) (fnOf Tryz.prog 21) (resL [gPort, .int .i64, gRules] x) [gPort, .sl .str, .bool]) = (fun x => Tree.br ((tickF x.1 x.2.2).1.1 == (2 : Int)) (Tree.need (List.length (tickF x.1 x.2.2).1.2.2.2.2.2.2.1 ≤ (100000 : Nat)) Tree.stuck) (Tree.leaf ((tickF x.1 x.2.2).1, bif (tickF x.1 x.2.2).2.1 then sayF (tickF x.1 x.2.2).1 x.2.1 else [], (tickF x.1 x.2.2).2.2))) := by kernel_rfl
theorem tick_state (p : DPort) (r : DRules) : (tickF p r).1.1 = p.1 := by
  unfold tickF
  cases h : p.1 == (0 : Int) with
  | true => rfl
  | false =>
    have e : (stepF r p).1 = p.1 := by
      unfold stepF
      cases dueF p <;> rfl
    cases h2 : (stepF r p).1 == (2 : Int) with
    | true =>
      simp only [cond_true, cond_false]
      unfold quietF
      cases decide ((stepF r p).2.2.2.1 < r.2.1) <;> exact e
    | false => exact e
def ltickP (x : DPort × Int × DRules) : Prop := x.1.1 = 1
def ltickC : Ctr := { args := [gPort, .int .i64, gRules], res := [gPort, .sl .str, .bool], pre := some ltickP, fn := fun (x : DPort × Int × DRules) => ltickF x.1 x.2.1 x.2.2 }
theorem ltick_ok : CtrOK Tryz.prog 21 ltickC :=
  fun_ok (G := ltickG) (Λ := []) tysOK ltickG_ok mixed (by kernel_rfl) (by kernel_rfl) (by kernel_rfl) (by kernel_rfl) lp_nil fun (x : DPort × Int × DRules) hw hp => by
    have hq : ltickP x := hp ltickP rfl
    show (evFn (mkC tys ltickG []) (fnOf Tryz.prog 21) (resL [gPort, .int .i64, gRules] x) [gPort, .sl .str, .bool]).holds (fun y => y = ltickF x.1 x.2.1 x.2.2)
    rw [congrFun ltick_tree x]
    have e : (tickF x.1 x.2.2).1.1 = 1 := (tick_state _ _).trans hq
    refine ⟨fun h => ?_, fun h => rfl⟩
    rw [e] at h
    cases h
end Go.Ev.Z
/- Two ends meet. -/
set_option linter.unusedVariables false
set_option linter.unusedSimpArgs false
namespace Go.Ev.Z
open Go.Proofs Go.Conc
def metG : List (Nat × Ctr) := [(19, lopenC), (10, rules22C), (21, ltickC), (22, saidC), (23, lhelloC)]
theorem metG_ok : CtrsOK Tryz.prog (fun f => lk f metG) := (ctrs_cons lopen_ok (ctrs_cons rules22_ok (ctrs_cons ltick_ok (ctrs_cons said_ok (ctrs_cons lhello_ok ctrs_nil)))))
abbrev MtS := (Bool × List (List UInt8) × Int × Unit) × DPort × DPort × DPort × DPort × Unit
def mtStp (x : MtS) : Ex × MtS :=
  bif decide (x.1.2.2.1 < 6) then
    bif (x.1.2.1.length : Int) != (1 : Int) then (.exit 0, x)
    else bif !(saidF (x.1.2.1.getD 0 [])).2 then (.ret, ((false, x.1.2.1, x.1.2.2.1, ()), x.2.2.2.1, x.2.2.2.2.1, x.2.2.2.1, x.2.2.2.2.1, ()))
    else (.normal, ((x.1.1, (metGo (x.2.2.2.1, x.2.2.2.2.1, x.1.2.1)).2.2, x.1.2.2.1 + 1, ()), x.2.1, x.2.2.1, (metGo (x.2.2.2.1, x.2.2.2.2.1, x.1.2.1)).1, (metGo (x.2.2.2.1, x.2.2.2.2.1, x.1.2.1)).2.1, ()))
  else (.exit 0, x)
def mtMu (x : MtS) : Nat := (6 - x.1.2.2.1).toNat
def mtPre (x : MtS) : Prop := 0 ≤ x.1.2.2.1 ∧ x.1.2.2.1 ≤ 6
def mtD : LoopD where
  prom := []
  ts := [(4, .ptr 4 gPort), (5, .ptr 5 gPort), (6, .val .bool), (7, .ptr 7 gPort), (8, .ptr 8 gPort), (9, .val (.sl .str)), (24, .val (.int .i64))]
  bs := [(4, .var gPort), (5, .var gPort), (7, .var gPort), (8, .var gPort)]
  pre := fun (x : MtS) => mtPre x
  out := fun (x : MtS) => out2 0 (runF mtStp (mtMu x + 1) x)
theorem mt_round : (fun x : MtS => roundOf (mkC tys metG [(0, mtD.spec)]) mtD (loopB 0 (bodyOf (fnOf Tryz.prog 6))) x) = (fun x => Tree.br (decide (x.1.2.2.1 < (6 : Int))) (Tree.br ((↑(List.length x.1.2.1) : Int) != (1 : Int)) (Tree.leaf (Ex.exit (0 : Nat), some ((x.1.1, x.1.2.1, x.1.2.2.1, ()), x.2.1, x.2.2.1, x.2.2.2.1, x.2.2.2.2.1, ()))) (Tree.need ((0 : Int) ≤ (0 : Int) ∧ (0 : Int) < (↑(List.length x.1.2.1) : Int)) (Tree.br (!(saidF (List.getD x.1.2.1 (0 : Nat) [])).2) (Tree.leaf (Ex.ret, some ((false, x.1.2.1, x.1.2.2.1, ()), x.2.2.2.1, x.2.2.2.2.1, x.2.2.2.1, x.2.2.2.2.1, ()))) (Tree.leaf (Ex.normal, some ((x.1.1, bif (saidF (List.getD x.1.2.1 (0 : Nat) [])).1.1 == (1 : Int) then (lhelloF x.2.2.2.2.1 (2 : Int) (saidF (List.getD x.1.2.1 (0 : Nat) [])).1).2.1 else (lhelloF x.2.2.2.1 (1 : Int) (saidF (List.getD x.1.2.1 (0 : Nat) [])).1).2.1, IntKind.wrap IntKind.i64 (x.1.2.2.1 + (1 : Int)), ()), x.2.1, x.2.2.1, bif (saidF (List.getD x.1.2.1 (0 : Nat) [])).1.1 == (1 : Int) then x.2.2.2.1 else (lhelloF x.2.2.2.1 (1 : Int) (saidF (List.getD x.1.2.1 (0 : Nat) [])).1).1, bif (saidF (List.getD x.1.2.1 (0 : Nat) [])).1.1 == (1 : Int) then (lhelloF x.2.2.2.2.1 (2 : Int) (saidF (List.getD x.1.2.1 (0 : Nat) [])).1).1 else x.2.2.2.2.1, ())))))) (Tree.leaf (Ex.exit (0 : Nat), some ((x.1.1, x.1.2.1, x.1.2.2.1, ()), x.2.1, x.2.2.1, x.2.2.2.1, x.2.2.2.2.1, ())))) := by kernel_rfl
theorem met_tree : (fun x : (Int × Int) × (Int × Int) => evFn (mkC tys metG [(0, mtD.spec)]) (fnOf Tryz.prog 6) (resL [gE, gE] x) [gPort, gPort, .bool]) = (fun x => Tree.need (ltickP (((1 : Int), x.1, ((0 : Int), (0 : Int)), (0 : Int), (0 : Int), (0 : Int), [], ((0 : Int), []), []), (1 : Int), (1 : Int), (5 : Int), (2 : Int), (3 : Int))) (Tree.need (mtPre ((false, (ltickF ((1 : Int), x.1, ((0 : Int), (0 : Int)), (0 : Int), (0 : Int), (0 : Int), [], ((0 : Int), []), []) (1 : Int) ((1 : Int), (5 : Int), (2 : Int), (3 : Int))).2.1, (0 : Int), PUnit.unit), ((0 : Int), ((0 : Int), (0 : Int)), ((0 : Int), (0 : Int)), (0 : Int), (0 : Int), (0 : Int), [], ((0 : Int), []), []), ((0 : Int), ((0 : Int), (0 : Int)), ((0 : Int), (0 : Int)), (0 : Int), (0 : Int), (0 : Int), [], ((0 : Int), []), []), (ltickF ((1 : Int), x.1, ((0 : Int), (0 : Int)), (0 : Int), (0 : Int), (0 : Int), [], ((0 : Int), []), []) (1 : Int) ((1 : Int), (5 : Int), (2 : Int), (3 : Int))).1, ((1 : Int), x.2, ((0 : Int), (0 : Int)), (0 : Int), (0 : Int), (0 : Int), [], ((0 : Int), []), []), PUnit.unit)) (Tree.br (isRet (runF mtStp (mtMu ((false, (ltickF ((1 : Int), x.1, ((0 : Int), (0 : Int)), (0 : Int), (0 : Int), (0 : Int), [], ((0 : Int), []), []) (1 : Int) ((1 : Int), (5 : Int), (2 : Int), (3 : Int))).2.1, (0 : Int), PUnit.unit), ((0 : Int), ((0 : Int), (0 : Int)), ((0 : Int), (0 : Int)), (0 : Int), (0 : Int), (0 : Int), [], ((0 : Int), []), []), ((0 : Int), ((0 : Int), (0 : Int)), ((0 : Int), (0 : Int)), (0 : Int), (0 : Int), (0 : Int), [], ((0 : Int), []), []), (ltickF ((1 : Int), x.1, ((0 : Int), (0 : Int)), (0 : Int), (0 : Int), (0 : Int), [], ((0 : Int), []), []) (1 : Int) ((1 : Int), (5 : Int), (2 : Int), (3 : Int))).1, ((1 : Int), x.2, ((0 : Int), (0 : Int)), (0 : Int), (0 : Int), (0 : Int), [], ((0 : Int), []), []), PUnit.unit) + (1 : Nat)) ((false, (ltickF ((1 : Int), x.1, ((0 : Int), (0 : Int)), (0 : Int), (0 : Int), (0 : Int), [], ((0 : Int), []), []) (1 : Int) ((1 : Int), (5 : Int), (2 : Int), (3 : Int))).2.1, (0 : Int), PUnit.unit), ((0 : Int), ((0 : Int), (0 : Int)), ((0 : Int), (0 : Int)), (0 : Int), (0 : Int), (0 : Int), [], ((0 : Int), []), []), ((0 : Int), ((0 : Int), (0 : Int)), ((0 : Int), (0 : Int)), (0 : Int), (0 : Int), (0 : Int), [], ((0 : Int), []), []), (ltickF ((1 : Int), x.1, ((0 : Int), (0 : Int)), (0 : Int), (0 : Int), (0 : Int), [], ((0 : Int), []), []) (1 : Int) ((1 : Int), (5 : Int), (2 : Int), (3 : Int))).1, ((1 : Int), x.2, ((0 : Int), (0 : Int)), (0 : Int), (0 : Int), (0 : Int), [], ((0 : Int), []), []), PUnit.unit)).1) (Tree.leaf ((runF mtStp (mtMu ((false, (ltickF ((1 : Int), x.1, ((0 : Int), (0 : Int)), (0 : Int), (0 : Int), (0 : Int), [], ((0 : Int), []), []) (1 : Int) ((1 : Int), (5 : Int), (2 : Int), (3 : Int))).2.1, (0 : Int), PUnit.unit), ((0 : Int), ((0 : Int), (0 : Int)), ((0 : Int), (0 : Int)), (0 : Int), (0 : Int), (0 : Int), [], ((0 : Int), []), []), ((0 : Int), ((0 : Int), (0 : Int)), ((0 : Int), (0 : Int)), (0 : Int), (0 : Int), (0 : Int), [], ((0 : Int), []), []), (ltickF ((1 : Int), x.1, ((0 : Int), (0 : Int)), (0 : Int), (0 : Int), (0 : Int), [], ((0 : Int), []), []) (1 : Int) ((1 : Int), (5 : Int), (2 : Int), (3 : Int))).1, ((1 : Int), x.2, ((0 : Int), (0 : Int)), (0 : Int), (0 : Int), (0 : Int), [], ((0 : Int), []), []), PUnit.unit) + (1 : Nat)) ((false, (ltickF ((1 : Int), x.1, ((0 : Int), (0 : Int)), (0 : Int), (0 : Int), (0 : Int), [], ((0 : Int), []), []) (1 : Int) ((1 : Int), (5 : Int), (2 : Int), (3 : Int))).2.1, (0 : Int), PUnit.unit), ((0 : Int), ((0 : Int), (0 : Int)), ((0 : Int), (0 : Int)), (0 : Int), (0 : Int), (0 : Int), [], ((0 : Int), []), []), ((0 : Int), ((0 : Int), (0 : Int)), ((0 : Int), (0 : Int)), (0 : Int), (0 : Int), (0 : Int), [], ((0 : Int), []), []), (ltickF ((1 : Int), x.1, ((0 : Int), (0 : Int)), (0 : Int), (0 : Int), (0 : Int), [], ((0 : Int), []), []) (1 : Int) ((1 : Int), (5 : Int), (2 : Int), (3 : Int))).1, ((1 : Int), x.2, ((0 : Int), (0 : Int)), (0 : Int), (0 : Int), (0 : Int), [], ((0 : Int), []), []), PUnit.unit)).2.2.1, (runF mtStp (mtMu ((false, (ltickF ((1 : Int), x.1, ((0 : Int), (0 : Int)), (0 : Int), (0 : Int), (0 : Int), [], ((0 : Int), []), []) (1 : Int) ((1 : Int), (5 : Int), (2 : Int), (3 : Int))).2.1, (0 : Int), PUnit.unit), ((0 : Int), ((0 : Int), (0 : Int)), ((0 : Int), (0 : Int)), (0 : Int), (0 : Int), (0 : Int), [], ((0 : Int), []), []), ((0 : Int), ((0 : Int), (0 : Int)), ((0 : Int), (0 : Int)), (0 : Int), (0 : Int), (0 : Int), [], ((0 : Int), []), []), (ltickF ((1 : Int), x.1, ((0 : Int), (0 : Int)), (0 : Int), (0 : Int), (0 : Int), [], ((0 : Int), []), []) (1 : Int) ((1 : Int), (5 : Int), (2 : Int), (3 : Int))).1, ((1 : Int), x.2, ((0 : Int), (0 : Int)), (0 : Int), (0 : Int), (0 : Int), [], ((0 : Int), []), []), PUnit.unit) + (1 : Nat)) ((false, (ltickF ((1 : Int), x.1, ((0 : Int), (0 : Int)), (0 : Int), (0 : Int), (0 : Int), [], ((0 : Int), []), []) (1 : Int) ((1 : Int), (5 : Int), (2 : Int), (3 : Int))).2.1, (0 : Int), PUnit.unit), ((0 : Int), ((0 : Int), (0 : Int)), ((0 : Int), (0 : Int)), (0 : Int), (0 : Int), (0 : Int), [], ((0 : Int), []), []), ((0 : Int), ((0 : Int), (0 : Int)), ((0 : Int), (0 : Int)), (0 : Int), (0 : Int), (0 : Int), [], ((0 : Int), []), []), (ltickF ((1 : Int), x.1, ((0 : Int), (0 : Int)), (0 : Int), (0 : Int), (0 : Int), [], ((0 : Int), []), []) (1 : Int) ((1 : Int), (5 : Int), (2 : Int), (3 : Int))).1, ((1 : Int), x.2, ((0 : Int), (0 : Int)), (0 : Int), (0 : Int), (0 : Int), [], ((0 : Int), []), []), PUnit.unit)).2.2.2.1, (runF mtStp (mtMu ((false, (ltickF ((1 : Int), x.1, ((0 : Int), (0 : Int)), (0 : Int), (0 : Int), (0 : Int), [], ((0 : Int), []), []) (1 : Int) ((1 : Int), (5 : Int), (2 : Int), (3 : Int))).2.1, (0 : Int), PUnit.unit), ((0 : Int), ((0 : Int), (0 : Int)), ((0 : Int), (0 : Int)), (0 : Int), (0 : Int), (0 : Int), [], ((0 : Int), []), []), ((0 : Int), ((0 : Int), (0 : Int)), ((0 : Int), (0 : Int)), (0 : Int), (0 : Int), (0 : Int), [], ((0 : Int), []), []), (ltickF ((1 : Int), x.1, ((0 : Int), (0 : Int)), (0 : Int), (0 : Int), (0 : Int), [], ((0 : Int), []), []) (1 : Int) ((1 : Int), (5 : Int), (2 : Int), (3 : Int))).1, ((1 : Int), x.2, ((0 : Int), (0 : Int)), (0 : Int), (0 : Int), (0 : Int), [], ((0 : Int), []), []), PUnit.unit) + (1 : Nat)) ((false, (ltickF ((1 : Int), x.1, ((0 : Int), (0 : Int)), (0 : Int), (0 : Int), (0 : Int), [], ((0 : Int), []), []) (1 : Int) ((1 : Int), (5 : Int), (2 : Int), (3 : Int))).2.1, (0 : Int), PUnit.unit), ((0 : Int), ((0 : Int), (0 : Int)), ((0 : Int), (0 : Int)), (0 : Int), (0 : Int), (0 : Int), [], ((0 : Int), []), []), ((0 : Int), ((0 : Int), (0 : Int)), ((0 : Int), (0 : Int)), (0 : Int), (0 : Int), (0 : Int), [], ((0 : Int), []), []), (ltickF ((1 : Int), x.1, ((0 : Int), (0 : Int)), (0 : Int), (0 : Int), (0 : Int), [], ((0 : Int), []), []) (1 : Int) ((1 : Int), (5 : Int), (2 : Int), (3 : Int))).1, ((1 : Int), x.2, ((0 : Int), (0 : Int)), (0 : Int), (0 : Int), (0 : Int), [], ((0 : Int), []), []), PUnit.unit)).2.1.1)) (Tree.leaf ((runF mtStp (mtMu ((false, (ltickF ((1 : Int), x.1, ((0 : Int), (0 : Int)), (0 : Int), (0 : Int), (0 : Int), [], ((0 : Int), []), []) (1 : Int) ((1 : Int), (5 : Int), (2 : Int), (3 : Int))).2.1, (0 : Int), PUnit.unit), ((0 : Int), ((0 : Int), (0 : Int)), ((0 : Int), (0 : Int)), (0 : Int), (0 : Int), (0 : Int), [], ((0 : Int), []), []), ((0 : Int), ((0 : Int), (0 : Int)), ((0 : Int), (0 : Int)), (0 : Int), (0 : Int), (0 : Int), [], ((0 : Int), []), []), (ltickF ((1 : Int), x.1, ((0 : Int), (0 : Int)), (0 : Int), (0 : Int), (0 : Int), [], ((0 : Int), []), []) (1 : Int) ((1 : Int), (5 : Int), (2 : Int), (3 : Int))).1, ((1 : Int), x.2, ((0 : Int), (0 : Int)), (0 : Int), (0 : Int), (0 : Int), [], ((0 : Int), []), []), PUnit.unit) + (1 : Nat)) ((false, (ltickF ((1 : Int), x.1, ((0 : Int), (0 : Int)), (0 : Int), (0 : Int), (0 : Int), [], ((0 : Int), []), []) (1 : Int) ((1 : Int), (5 : Int), (2 : Int), (3 : Int))).2.1, (0 : Int), PUnit.unit), ((0 : Int), ((0 : Int), (0 : Int)), ((0 : Int), (0 : Int)), (0 : Int), (0 : Int), (0 : Int), [], ((0 : Int), []), []), ((0 : Int), ((0 : Int), (0 : Int)), ((0 : Int), (0 : Int)), (0 : Int), (0 : Int), (0 : Int), [], ((0 : Int), []), []), (ltickF ((1 : Int), x.1, ((0 : Int), (0 : Int)), (0 : Int), (0 : Int), (0 : Int), [], ((0 : Int), []), []) (1 : Int) ((1 : Int), (5 : Int), (2 : Int), (3 : Int))).1, ((1 : Int), x.2, ((0 : Int), (0 : Int)), (0 : Int), (0 : Int), (0 : Int), [], ((0 : Int), []), []), PUnit.unit)).2.2.2.2.1, (runF mtStp (mtMu ((false, (ltickF ((1 : Int), x.1, ((0 : Int), (0 : Int)), (0 : Int), (0 : Int), (0 : Int), [], ((0 : Int), []), []) (1 : Int) ((1 : Int), (5 : Int), (2 : Int), (3 : Int))).2.1, (0 : Int), PUnit.unit), ((0 : Int), ((0 : Int), (0 : Int)), ((0 : Int), (0 : Int)), (0 : Int), (0 : Int), (0 : Int), [], ((0 : Int), []), []), ((0 : Int), ((0 : Int), (0 : Int)), ((0 : Int), (0 : Int)), (0 : Int), (0 : Int), (0 : Int), [], ((0 : Int), []), []), (ltickF ((1 : Int), x.1, ((0 : Int), (0 : Int)), (0 : Int), (0 : Int), (0 : Int), [], ((0 : Int), []), []) (1 : Int) ((1 : Int), (5 : Int), (2 : Int), (3 : Int))).1, ((1 : Int), x.2, ((0 : Int), (0 : Int)), (0 : Int), (0 : Int), (0 : Int), [], ((0 : Int), []), []), PUnit.unit) + (1 : Nat)) ((false, (ltickF ((1 : Int), x.1, ((0 : Int), (0 : Int)), (0 : Int), (0 : Int), (0 : Int), [], ((0 : Int), []), []) (1 : Int) ((1 : Int), (5 : Int), (2 : Int), (3 : Int))).2.1, (0 : Int), PUnit.unit), ((0 : Int), ((0 : Int), (0 : Int)), ((0 : Int), (0 : Int)), (0 : Int), (0 : Int), (0 : Int), [], ((0 : Int), []), []), ((0 : Int), ((0 : Int), (0 : Int)), ((0 : Int), (0 : Int)), (0 : Int), (0 : Int), (0 : Int), [], ((0 : Int), []), []), (ltickF ((1 : Int), x.1, ((0 : Int), (0 : Int)), (0 : Int), (0 : Int), (0 : Int), [], ((0 : Int), []), []) (1 : Int) ((1 : Int), (5 : Int), (2 : Int), (3 : Int))).1, ((1 : Int), x.2, ((0 : Int), (0 : Int)), (0 : Int), (0 : Int), (0 : Int), [], ((0 : Int), []), []), PUnit.unit)).2.2.2.2.2.1, bif (runF mtStp (mtMu ((false, (ltickF ((1 : Int), x.1, ((0 : Int), (0 : Int)), (0 : Int), (0 : Int), (0 : Int), [], ((0 : Int), []), []) (1 : Int) ((1 : Int), (5 : Int), (2 : Int), (3 : Int))).2.1, (0 : Int), PUnit.unit), ((0 : Int), ((0 : Int), (0 : Int)), ((0 : Int), (0 : Int)), (0 : Int), (0 : Int), (0 : Int), [], ((0 : Int), []), []), ((0 : Int), ((0 : Int), (0 : Int)), ((0 : Int), (0 : Int)), (0 : Int), (0 : Int), (0 : Int), [], ((0 : Int), []), []), (ltickF ((1 : Int), x.1, ((0 : Int), (0 : Int)), (0 : Int), (0 : Int), (0 : Int), [], ((0 : Int), []), []) (1 : Int) ((1 : Int), (5 : Int), (2 : Int), (3 : Int))).1, ((1 : Int), x.2, ((0 : Int), (0 : Int)), (0 : Int), (0 : Int), (0 : Int), [], ((0 : Int), []), []), PUnit.unit) + (1 : Nat)) ((false, (ltickF ((1 : Int), x.1, ((0 : Int), (0 : Int)), (0 : Int), (0 : Int), (0 : Int), [], ((0 : Int), []), []) (1 : Int) ((1 : Int), (5 : Int), (2 : Int), (3 : Int))).2.1, (0 : Int), PUnit.unit), ((0 : Int), ((0 : Int), (0 : Int)), ((0 : Int), (0 : Int)), (0 : Int), (0 : Int), (0 : Int), [], ((0 : Int), []), []), ((0 : Int), ((0 : Int), (0 : Int)), ((0 : Int), (0 : Int)), (0 : Int), (0 : Int), (0 : Int), [], ((0 : Int), []), []), (ltickF ((1 : Int), x.1, ((0 : Int), (0 : Int)), (0 : Int), (0 : Int), (0 : Int), [], ((0 : Int), []), []) (1 : Int) ((1 : Int), (5 : Int), (2 : Int), (3 : Int))).1, ((1 : Int), x.2, ((0 : Int), (0 : Int)), (0 : Int), (0 : Int), (0 : Int), [], ((0 : Int), []), []), PUnit.unit)).2.2.2.2.1.1 == (2 : Int) then (runF mtStp (mtMu ((false, (ltickF ((1 : Int), x.1, ((0 : Int), (0 : Int)), (0 : Int), (0 : Int), (0 : Int), [], ((0 : Int), []), []) (1 : Int) ((1 : Int), (5 : Int), (2 : Int), (3 : Int))).2.1, (0 : Int), PUnit.unit), ((0 : Int), ((0 : Int), (0 : Int)), ((0 : Int), (0 : Int)), (0 : Int), (0 : Int), (0 : Int), [], ((0 : Int), []), []), ((0 : Int), ((0 : Int), (0 : Int)), ((0 : Int), (0 : Int)), (0 : Int), (0 : Int), (0 : Int), [], ((0 : Int), []), []), (ltickF ((1 : Int), x.1, ((0 : Int), (0 : Int)), (0 : Int), (0 : Int), (0 : Int), [], ((0 : Int), []), []) (1 : Int) ((1 : Int), (5 : Int), (2 : Int), (3 : Int))).1, ((1 : Int), x.2, ((0 : Int), (0 : Int)), (0 : Int), (0 : Int), (0 : Int), [], ((0 : Int), []), []), PUnit.unit) + (1 : Nat)) ((false, (ltickF ((1 : Int), x.1, ((0 : Int), (0 : Int)), (0 : Int), (0 : Int), (0 : Int), [], ((0 : Int), []), []) (1 : Int) ((1 : Int), (5 : Int), (2 : Int), (3 : Int))).2.1, (0 : Int), PUnit.unit), ((0 : Int), ((0 : Int), (0 : Int)), ((0 : Int), (0 : Int)), (0 : Int), (0 : Int), (0 : Int), [], ((0 : Int), []), []), ((0 : Int), ((0 : Int), (0 : Int)), ((0 : Int), (0 : Int)), (0 : Int), (0 : Int), (0 : Int), [], ((0 : Int), []), []), (ltickF ((1 : Int), x.1, ((0 : Int), (0 : Int)), (0 : Int), (0 : Int), (0 : Int), [], ((0 : Int), []), []) (1 : Int) ((1 : Int), (5 : Int), (2 : Int), (3 : Int))).1, ((1 : Int), x.2, ((0 : Int), (0 : Int)), (0 : Int), (0 : Int), (0 : Int), [], ((0 : Int), []), []), PUnit.unit)).2.2.2.2.2.1.1 == (2 : Int) else false))))) := by kernel_rfl
end Go.Ev.Z
/- Two ends meet: they come up. -/
set_option linter.unusedVariables false
set_option linter.unusedSimpArgs false
namespace Go.Ev.Z
open Go.Proofs Go.Conc
theorem mtStp_ends (x : MtS) : (mtStp x).1 = .normal ∨ (mtStp x).1 = .exit 0 ∨ (mtStp x).1 = .ret := by
  unfold mtStp
  cases decide (x.1.2.2.1 < 6) <;> cases (x.1.2.1.length : Int) != (1 : Int) <;> cases !(saidF (x.1.2.1.getD 0 [])).2 <;> simp
theorem mt_go {x : MtS} (hp : mtPre x) (hn : (mtStp x).1 = .normal) : mtPre (mtStp x).2 ∧ mtMu (mtStp x).2 < mtMu x := by
  obtain ⟨h1, h2⟩ := hp
  unfold mtStp at hn ⊢
  cases hlt : decide (x.1.2.2.1 < 6) with
  | false => rw [hlt] at hn; cases hn
  | true =>
    have hlt' := of_decide_eq_true hlt
    rw [hlt] at hn
    cases h3 : (x.1.2.1.length : Int) != (1 : Int) with
    | true => rw [h3] at hn; cases hn
    | false =>
      rw [h3] at hn
      cases h4 : !(saidF (x.1.2.1.getD 0 [])).2 with
      | true => rw [h4] at hn; cases hn
      | false =>
        simp only [cond_true, cond_false]
        exact ⟨⟨by show 0 ≤ x.1.2.2.1 + 1; omega, by show x.1.2.2.1 + 1 ≤ 6; omega⟩, by show (6 - (x.1.2.2.1 + 1)).toNat < (6 - x.1.2.2.1).toNat; omega⟩
theorem mt_loop : LoopOK (mkC tys metG [(0, mtD.spec)]) mtD.spec (loopB 0 (bodyOf (fnOf Tryz.prog 6))) :=
  loopF2_ok (id := 0) (D := mtD) (fun x => congrFun mt_round x) mtStp mtMu (fun _ => rfl) mtStp_ends fun (x : MtS) hp => by
    refine ⟨?_, fun hn => mt_go hp hn⟩
    obtain ⟨h1, h2⟩ := hp
    simp only [Tree.holds]
    unfold mtStp
    refine ⟨fun h => ⟨fun g => by rw [h, g]; rfl, fun g => ⟨⟨Int.le_refl _, ?_⟩, fun k => by rw [h, g, k]; rfl, fun k => ?_⟩⟩, fun h => by rw [h]; rfl⟩
    · have : (x.1.2.1.length : Int) = 1 := by simpa using g
      omega
    · have hlt := of_decide_eq_true h
      rw [h, g, k, i64_id (n := x.1.2.2.1 + 1) (by omega) (by omega)]
      unfold metGo
      simp only [cond_true, cond_false]
      cases (saidF (x.1.2.1.getD 0 [])).1.1 == (1 : Int) <;> rfl
theorem mt_step {f : Bool} {s : List UInt8} {i : Int} {z4 z5 x7 x8 x7' x8' : DPort} {l' : List (List UInt8)} (hi : i < 6) (hs : (saidF s).2 = true) (h : metGo (x7, x8, [s]) = (x7', x8', l')) :
    mtStp ((f, [s], i, ()), z4, z5, x7, x8, ()) = (.normal, ((f, l', i + 1, ()), z4, z5, x7', x8', ())) := by
  unfold mtStp
  simp only [List.getD_cons_zero]
  rw [decide_eq_true hi, hs, h]
  rfl
theorem met_run {a b : Int × Int} (ha : EpIn a) (hb : EpIn b) (z4 z5 : DPort) : runF mtStp 7 ((false, [frHello (1, a, (0, 0))], 0, ()), z4, z5, (1, a, (0, 0), 0, 1, noMrl), (1, b, (0, 0), 0, 0, noMrl), ()) = (.exit 0, ((false, [], 4, ()), z4, z5, (2, a, b, 0, 1, noMrl), (2, b, a, 0, 0, noMrl), ())) := by
  rw [runF_go (mt_step (by omega) (by rw [said_hello (hello_in (by omega) (by omega) ha zero_u32)]) (met_1 ha hb))]
  rw [runF_go (mt_step (by omega) (by rw [said_hello (hello_in (by omega) (by omega) hb ha.w)]) (met_2 ha hb))]
  rw [runF_go (mt_step (by omega) (by rw [said_hello (hello_in (by omega) (by omega) ha hb.w)]) (met_3 ha hb))]
  rw [runF_go (mt_step (by omega) (by rw [said_hello (hello_in (by omega) (by omega) hb ha.w)]) (met_4 ha hb))]
  rw [runF_end (by unfold mtStp; simp)]
  rfl
def metP (x : (Int × Int) × (Int × Int)) : Prop := EpIn x.1 ∧ EpIn x.2
def metF (x : (Int × Int) × (Int × Int)) : DPort × DPort × Bool := ((2, x.1, x.2, 0, 1, noMrl), (2, x.2, x.1, 0, 0, noMrl), true)
def metC : Ctr := { args := [gE, gE], res := [gPort, gPort, .bool], pre := some metP, fn := fun (x : (Int × Int) × (Int × Int)) => metF x }
theorem met_ok : CtrOK Tryz.prog 6 metC :=
  fun_ok (G := metG) (Λ := [(0, mtD.spec)]) tysOK metG_ok mixed (by kernel_rfl) (by kernel_rfl) (by kernel_rfl) (by kernel_rfl) (lp_cons mt_loop lp_nil) fun (x : (Int × Int) × (Int × Int)) hw hp => by
    have hq : metP x := hp metP rfl
    have ha : EpIn x.1 := hq.1
    have hb : EpIn x.2 := hq.2
    show (evFn (mkC tys metG [(0, mtD.spec)]) (fnOf Tryz.prog 6) (resL [gE, gE] x) [gPort, gPort, .bool]).holds (fun y => y = metF x)
    rw [congrFun met_tree x]
    have key : ltickF ((1 : Int), x.1, ((0 : Int), (0 : Int)), (0 : Int), (0 : Int), (0 : Int), [], ((0 : Int), []), []) (1 : Int) ((1 : Int), (5 : Int), (2 : Int), (3 : Int)) = ((1, x.1, (0, 0), 0, 1, noMrl), [frHello (1, x.1, (0, 0))], false) := meet_tick ha
    have hrun := met_run ha hb ((0 : Int), ((0 : Int), (0 : Int)), ((0 : Int), (0 : Int)), (0 : Int), (0 : Int), (0 : Int), [], ((0 : Int), []), []) ((0 : Int), ((0 : Int), (0 : Int)), ((0 : Int), (0 : Int)), (0 : Int), (0 : Int), (0 : Int), [], ((0 : Int), []), [])
    simp only [Tree.holds, key]
    refine ⟨rfl, ⟨Int.le_refl _, by show (0 : Int) ≤ 6; omega⟩, ?_⟩
    generalize hr : runF mtStp (mtMu _ + 1) _ = v
    have hv : v = (.exit 0, ((false, [], 4, ()), ((0 : Int), ((0 : Int), (0 : Int)), ((0 : Int), (0 : Int)), (0 : Int), (0 : Int), (0 : Int), [], ((0 : Int), []), []), ((0 : Int), ((0 : Int), (0 : Int)), ((0 : Int), (0 : Int)), (0 : Int), (0 : Int), (0 : Int), [], ((0 : Int), []), []), (2, x.1, x.2, 0, 1, noMrl), (2, x.2, x.1, 0, 0, noMrl), ())) := hr.symm.trans hrun
    subst hv
    exact ⟨fun h => (by cases h), fun _ => rfl⟩
end Go.Ev.Z
/- A link: what wakes. -/
set_option linter.unusedVariables false
set_option linter.unusedSimpArgs false
namespace Go.Ev.Z
open Go.Proofs Go.Conc
def farC : Ctr := { args := [.int .i64, .int .i64], res := [gItem], pre := none, fn := fun (x : Int × Int) => ((x.1, x.2, 4294967295, -1) : DItem) }
def farG : List (Nat × Ctr) := []
theorem far_tree : (fun x : Int × Int => evFn (mkC tys farG []) (fnOf Tryz.prog 18) (resL farC.args x) farC.res) = (fun x => Tree.leaf (x.1, x.2, (4294967295 : Int), (-1 : Int))) := by kernel_rfl
theorem far_ok : CtrOK Tryz.prog 18 farC :=
  fun_ok (G := farG) (Λ := []) tysOK ctrs_nil mixed (by kernel_rfl) (by kernel_rfl) (by kernel_rfl) (by kernel_rfl) lp_nil fun (x : Int × Int) hw _ => by
    rw [congrFun far_tree x]
    exact holds_val (d := farC.fn x) (by kernel_rfl) (by simp [Tree.safe])
def awake22G : List (Nat × Ctr) := [(6, metC), (18, farC), (10, rules22C), (9, lsendC), (12, toldC), (13, lpartC), (14, cameC), (15, lackC), (17, lagainC), (19, lopenC), (20, lcloseC), (7, holdsC), (8, shpairC), (16, midleC)]
theorem awake22G_ok : CtrsOK Tryz.prog (fun f => lk f awake22G) := (ctrs_cons met_ok (ctrs_cons far_ok (ctrs_cons rules22_ok (ctrs_cons lsend_ok (ctrs_cons told_ok (ctrs_cons lpart_ok (ctrs_cons came_ok (ctrs_cons lack_ok (ctrs_cons lagain_ok (ctrs_cons lopen_ok (ctrs_cons lclose_ok (ctrs_cons holds_ok (ctrs_cons shpair_ok (ctrs_cons midle_ok ctrs_nil))))))))))))))
def awake22C : Ctr := { args := [], res := [.bool], pre := none, fn := fun (x : Unit) => true }
theorem awake22_tree : (fun x : Unit => evFn (mkC tys awake22G []) (fnOf Tryz.prog 5) (resL awake22C.args x) awake22C.res) = (fun x => Tree.need (metP (((1 : Int), (0 : Int)), (7 : Int), (0 : Int))) (Tree.need (lsendP ((metF (((1 : Int), (0 : Int)), (7 : Int), (0 : Int))).1, (1 : Int), [((3 : Int), (0 : Int), (4294967295 : Int), (-1 : Int))], (1 : Int), (5 : Int), (2 : Int), (3 : Int))) (Tree.br false (Tree.leaf false) (Tree.need ((0 : Int) ≤ (0 : Int) ∧ (0 : Int) < (1 : Int)) (Tree.need (lpartP ((metF (((1 : Int), (0 : Int)), (7 : Int), (0 : Int))).2.1, (2 : Int), (toldF (List.getD (lsendF (metF (((1 : Int), (0 : Int)), (7 : Int), (0 : Int))).1 (1 : Int) [((3 : Int), (0 : Int), (4294967295 : Int), (-1 : Int))] ((1 : Int), (5 : Int), (2 : Int), (3 : Int))).2.1 (0 : Nat) [])).1)) (Tree.br false (Tree.leaf false) (Tree.need ((0 : Int) ≤ (0 : Int) ∧ (0 : Int) < (1 : Int)) (Tree.need (lackP ((lsendF (metF (((1 : Int), (0 : Int)), (7 : Int), (0 : Int))).1 (1 : Int) [((3 : Int), (0 : Int), (4294967295 : Int), (-1 : Int))] ((1 : Int), (5 : Int), (2 : Int), (3 : Int))).1, (cameF (List.getD (lpartF (metF (((1 : Int), (0 : Int)), (7 : Int), (0 : Int))).2.1 (2 : Int) (toldF (List.getD (lsendF (metF (((1 : Int), (0 : Int)), (7 : Int), (0 : Int))).1 (1 : Int) [((3 : Int), (0 : Int), (4294967295 : Int), (-1 : Int))] ((1 : Int), (5 : Int), (2 : Int), (3 : Int))).2.1 (0 : Nat) [])).1).2.1 (0 : Nat) [])).1)) (Tree.need (lpartP ((metF (((1 : Int), (0 : Int)), (7 : Int), (0 : Int))).2.1, (2 : Int), (1 : Int), (((1 : Int), (9 : Int)), (toldF (List.getD (lsendF (metF (((1 : Int), (0 : Int)), (7 : Int), (0 : Int))).1 (1 : Int) [((3 : Int), (0 : Int), (4294967295 : Int), (-1 : Int))] ((1 : Int), (5 : Int), (2 : Int), (3 : Int))).2.1 (0 : Nat) [])).1.2.1.2), (toldF (List.getD (lsendF (metF (((1 : Int), (0 : Int)), (7 : Int), (0 : Int))).1 (1 : Int) [((3 : Int), (0 : Int), (4294967295 : Int), (-1 : Int))] ((1 : Int), (5 : Int), (2 : Int), (3 : Int))).2.1 (0 : Nat) [])).1.2.2)) (Tree.need (lsendP ((lagainF (metF (((1 : Int), (0 : Int)), (7 : Int), (0 : Int))).1 (metF (((1 : Int), (0 : Int)), (7 : Int), (0 : Int))).2.1.2.1).1, (1 : Int), [], (1 : Int), (5 : Int), (2 : Int), (3 : Int))) (Tree.need ((true == true && true) = true → (0 : Int) ≤ (0 : Int) ∧ (0 : Int) < (1 : Int)) (Tree.leaf true)))))))))))) := by kernel_rfl
theorem aw22_ep (n : Int) (h0 : 1 ≤ n) (h1 : n ≤ 7) : EpIn (n, 0) := ⟨⟨(has_u32 _).2 (by omega), (has_u32 _).2 (by omega)⟩, by
  unfold noneF
  have : (n == 0) = false := by simp; omega
  rw [this]; rfl⟩
theorem aw22_again : lagainF (metF ((1, 0), (7, 0))).1 (metF ((1, 0), (7, 0))).2.1.2.1 = ((1, (1, 1), (7, 0), 0, 0, noMrl), 0) := by kernel_rfl
theorem aw22_kept : (lsendF (metF (((1 : Int), (0 : Int)), (7 : Int), (0 : Int))).1 (1 : Int) [((3 : Int), (0 : Int), (4294967295 : Int), (-1 : Int))] ((1 : Int), (5 : Int), (2 : Int), (3 : Int))).1.2.2.2.2.2.2.1.length = 1 := by kernel_rfl
theorem aw22_pre (n : Int) (p t : Int × Int) (l : List DItem) (h0 : 0 ≤ n) (h1 : n < 16) (s w : Int) : lsendP ((s, p, t, 0, w, noMrl), n, l, (1, 5, 2, 3)) :=
  ⟨h0, h1, by show (0 : Int) ≤ 0; omega, by show (0 : Int) ≤ 60000; omega, by show (1 : Int) ≤ 2; omega, fun x hx => (by cases hx)⟩
theorem aw22_win (n : Int) (x : DPart) : lpartP ((metF ((1, 0), (7, 0))).2.1, n, x) := ⟨by show 0 ≤ 1000; omega, fun y hy => (by cases hy)⟩
theorem awake22_ok : CtrOK Tryz.prog 5 awake22C :=
  fun_ok (G := awake22G) (Λ := []) tysOK awake22G_ok mixed (by kernel_rfl) (by kernel_rfl) (by kernel_rfl) (by kernel_rfl) lp_nil fun (x : Unit) hw _ => by
    show (evFn (mkC tys awake22G []) (fnOf Tryz.prog 5) (resL awake22C.args x) awake22C.res).holds (fun y => y = true)
    rw [congrFun awake22_tree x]
    refine ⟨⟨aw22_ep 1 (by omega) (by omega), aw22_ep 7 (by omega) (by omega)⟩, aw22_pre _ _ _ _ (by omega) (by omega) _ _, fun h => (by cases h), fun _ => ⟨⟨by omega, by omega⟩, aw22_win _ _, fun h => (by cases h), fun _ => ⟨⟨by omega, by omega⟩, ?_, aw22_win _ _, ?_, fun _ => ⟨by omega, by omega⟩, rfl⟩⟩⟩
    · unfold lackP
      simp only [aw22_kept]
      omega
    · rw [aw22_again]
      exact aw22_pre _ _ _ _ (by omega) (by omega) _ _
end Go.Ev.Z
/- Two ends that hear each other: the law's pieces. -/
set_option linter.unusedVariables false
set_option linter.unusedSimpArgs false
namespace Go.Ev.Z
open Go.Proofs Go.Conc
def lmG : List (Nat × Ctr) := [(4, noneC), (5, awake22C), (6, metC), (7, holdsC), (8, shpairC), (9, lsendC), (10, rules22C), (11, allC), (12, toldC), (13, lpartC), (14, cameC), (15, lackC), (16, midleC), (17, lagainC)]
theorem lmG_ok : CtrsOK Tryz.prog (fun f => lk f lmG) := (ctrs_cons none_ok (ctrs_cons awake22_ok (ctrs_cons met_ok (ctrs_cons holds_ok (ctrs_cons shpair_ok (ctrs_cons lsend_ok (ctrs_cons rules22_ok (ctrs_cons all_ok (ctrs_cons told_ok (ctrs_cons lpart_ok (ctrs_cons came_ok (ctrs_cons lack_ok (ctrs_cons midle_ok (ctrs_cons lagain_ok ctrs_nil))))))))))))))
noncomputable def lmB (i : Nat) : Code := rNth (bodyOf (fnOf Tryz.prog 3)) i
noncomputable def lmL (i : Nat) : Code := rNth (loopB 0 (bodyOf (fnOf Tryz.prog 3))) i
noncomputable def lmI (i : Nat) : Code := rNth (rIn (lmL 2)) i
noncomputable def lmK (i : Nat) : Code := rNth (loopB 2 (bodyOf (fnOf Tryz.prog 3))) i
noncomputable def lmJ (i : Nat) : Code := rNth (rIn (lmK 2)) i
@[reducible] def lmT (xs : List (Nat × Sh)) : List (Nat × Sh) := (2, .val (.sl gItem)) :: (7, .ptr 7 gPort) :: (8, .ptr 8 gPort) :: (10, .ptr 10 gPort) :: (11, .val (.sl .str)) :: (15, .tip 1015) :: (96, .val (.sl .str)) :: (97, .val (.int .i64)) :: (98, .val (.int .i64)) :: xs
@[reducible] def lmM : List (Nat × BSh) := [(7, .var gPort), (8, .var gPort), (10, .var gPort), (1015, .row 66 gItem false)]
@[reducible] def lmTn : List (Nat × Sh) := [(2, .val (.sl gItem)), (7, .ptr 7 gPort), (8, .ptr 8 gPort), (10, .ptr 10 gPort), (11, .val (.sl .str)), (15, .nil), (96, .val (.sl .str)), (97, .val (.int .i64)), (98, .val (.int .i64))]
@[reducible] def lmMn : List (Nat × BSh) := [(7, .var gPort), (8, .var gPort), (10, .var gPort)]
abbrev LmM := DPort × DPort × DPort × List DItem × Unit
@[reducible] def lmX : List (Nat × Sh) := [(21, .val (.sl .str)), (127, .val (.sl (.sl gItem))), (128, .val (.int .i64)), (129, .val (.int .i64))]
theorem lm0_tree : (fun x : (Int × Int) × (Int × Int) × List DItem => pieceT (mkC tys lmG []) (fnOf Tryz.prog 3) [.bool] lmTn lmMn [lmB 0, lmB 1, lmB 2, lmB 3, lmB 4, lmB 5, lmB 6, lmB 7, lmB 8, lmB 9, lmB 10] { tmps := number 0 (resL [gE, gE, .sl gItem] x), boxes := [] }) = (fun x => Tree.br (bif bif noneF x.1 then true else noneF x.2.1 then true else decide ((↑(List.length x.2.2) : Int) > (40 : Int))) (Tree.leaf (some true, none)) (Tree.need (metP (x.1, x.2.1)) (Tree.br (bif bif !(metF (x.1, x.2.1)).2.2 then true else !bif (metF (x.1, x.2.1)).1.1 == (2 : Int) then sameF ((metF (x.1, x.2.1)).1.2.1, (metF (x.1, x.2.1)).1.2.2.1) ((metF (x.1, x.2.1)).2.1.2.1, (metF (x.1, x.2.1)).2.1.2.2.1) else false then true else !bif (metF (x.1, x.2.1)).2.1.1 == (2 : Int) then sameF ((metF (x.1, x.2.1)).2.1.2.1, (metF (x.1, x.2.1)).2.1.2.2.1) ((metF (x.1, x.2.1)).1.2.1, (metF (x.1, x.2.1)).1.2.2.1) else false) (Tree.leaf (some false, none)) (Tree.need (lsendP ((metF (x.1, x.2.1)).1, (1 : Int), x.2.2, (1 : Int), (5 : Int), (2 : Int), (3 : Int))) (Tree.br ((lsendF (metF (x.1, x.2.1)).1 (1 : Int) x.2.2 ((1 : Int), (5 : Int), (2 : Int), (3 : Int))).2.2 != (0 : Int)) (Tree.leaf (some (bif (allF x.2.2).2 != (0 : Int) then true else false), none)) (Tree.leaf (none, some ((x.2.2, (lsendF (metF (x.1, x.2.1)).1 (1 : Int) x.2.2 ((1 : Int), (5 : Int), (2 : Int), (3 : Int))).2.1, (lsendF (metF (x.1, x.2.1)).1 (1 : Int) x.2.2 ((1 : Int), (5 : Int), (2 : Int), (3 : Int))).2.1, (↑(List.length (lsendF (metF (x.1, x.2.1)).1 (1 : Int) x.2.2 ((1 : Int), (5 : Int), (2 : Int), (3 : Int))).2.1) : Int), (0 : Int), ()), ((2 : Int), x.1, x.2.1, (0 : Int), (1 : Int), (0 : Int), [], ((0 : Int), []), []), ((2 : Int), x.2.1, x.1, (0 : Int), (0 : Int), (0 : Int), [], ((0 : Int), []), []), (lsendF (metF (x.1, x.2.1)).1 (1 : Int) x.2.2 ((1 : Int), (5 : Int), (2 : Int), (3 : Int))).1, ())))))))) := by kernel_rfl
theorem lml0_tree : (fun x : (List DItem × List (List UInt8) × List (List UInt8) × Int × Int × Unit) × LmM => pieceT (mkC tys [] []) (fnOf Tryz.prog 3) [.bool] (lmT [(99, .val .bool)]) lmM [lmL 0] (mkS (lmT []) lmM x)) = (fun x => Tree.leaf (none, some ((x.1.1, x.1.2.1, x.1.2.2.1, x.1.2.2.2.1, x.1.2.2.2.2.1, decide (x.1.2.2.2.2.1 < x.1.2.2.2.1), ()), x.2.1, x.2.2.1, x.2.2.2.1, x.2.2.2.2.1, ()))) := by kernel_rfl
theorem lmi_tree : (fun x : (List DItem × List (List UInt8) × List (List UInt8) × Int × Int × Unit) × LmM => pieceT (mkC tys lmG []) (fnOf Tryz.prog 3) [.bool] (lmT lmX) lmM [lmI 0, lmI 1, lmI 2, lmI 3, lmI 4, lmI 5, lmI 6] (mkS (lmT []) lmM x)) = (fun x => Tree.need ((0 : Int) ≤ x.1.2.2.2.2.1 ∧ x.1.2.2.2.2.1 < (↑(List.length x.1.2.2.1) : Int)) (Tree.need (lpartP (x.2.2.1, (2 : Int), (toldF (List.getD x.1.2.2.1 (Int.toNat x.1.2.2.2.2.1) [])).1)) (Tree.br (bif bif !(toldF (List.getD x.1.2.2.1 (Int.toNat x.1.2.2.2.2.1) [])).2 then true else (lpartF x.2.2.1 (2 : Int) (toldF (List.getD x.1.2.2.1 (Int.toNat x.1.2.2.2.2.1) [])).1).2.2.2 != (0 : Int) then true else (↑(List.length (lpartF x.2.2.1 (2 : Int) (toldF (List.getD x.1.2.2.1 (Int.toNat x.1.2.2.2.2.1) [])).1).2.1) : Int) != (1 : Int)) (Tree.leaf (some false, none)) (Tree.leaf (none, some ((x.1.1, x.1.2.1, x.1.2.2.1, x.1.2.2.2.1, x.1.2.2.2.2.1, (lpartF x.2.2.1 (2 : Int) (toldF (List.getD x.1.2.2.1 (Int.toNat x.1.2.2.2.2.1) [])).1).2.1, (lpartF x.2.2.1 (2 : Int) (toldF (List.getD x.1.2.2.1 (Int.toNat x.1.2.2.2.2.1) [])).1).2.2.1, (↑(List.length (lpartF x.2.2.1 (2 : Int) (toldF (List.getD x.1.2.2.1 (Int.toNat x.1.2.2.2.2.1) [])).1).2.2.1) : Int), (0 : Int), ()), x.2.1, (lpartF x.2.2.1 (2 : Int) (toldF (List.getD x.1.2.2.1 (Int.toNat x.1.2.2.2.2.1) [])).1).1, x.2.2.2.1, x.2.2.2.2.1, ())))))) := by kernel_rfl
theorem lmk0_tree : (fun x : (List DItem × List (List UInt8) × List (List UInt8) × Int × Int × List (List UInt8) × List (List DItem) × Int × Int × Unit) × LmM => pieceT (mkC tys [] []) (fnOf Tryz.prog 3) [.bool] (lmT ((21, .val (.sl .str)) :: (127, .val (.sl (.sl gItem))) :: (128, .val (.int .i64)) :: (129, .val (.int .i64)) :: [(130, .val .bool)])) lmM [lmK 0] (mkS (lmT lmX) lmM x)) = (fun x => Tree.leaf (none, some ((x.1.1, x.1.2.1, x.1.2.2.1, x.1.2.2.2.1, x.1.2.2.2.2.1, x.1.2.2.2.2.2.1, x.1.2.2.2.2.2.2.1, x.1.2.2.2.2.2.2.2.1, x.1.2.2.2.2.2.2.2.2.1, decide (x.1.2.2.2.2.2.2.2.2.1 < x.1.2.2.2.2.2.2.2.1), ()), x.2.1, x.2.2.1, x.2.2.2.1, x.2.2.2.2.1, ()))) := by kernel_rfl
theorem lmk2_tree : (fun x : (List DItem × List (List UInt8) × List (List UInt8) × Int × Int × List (List UInt8) × List (List DItem) × Int × Int × Unit) × LmM => pieceT (mkC tys [] []) (fnOf Tryz.prog 3) [.bool] (lmT lmX) lmM [lmJ 0, lmJ 1] (mkS (lmT lmX) lmM x)) = (fun x => Tree.need ((0 : Int) ≤ x.1.2.2.2.2.2.2.2.2.1 ∧ x.1.2.2.2.2.2.2.2.2.1 < (↑(List.length x.1.2.2.2.2.2.2.1) : Int)) (Tree.need ((List.length x.2.2.2.2.1 + List.length (List.getD x.1.2.2.2.2.2.2.1 (Int.toNat x.1.2.2.2.2.2.2.2.2.1) [])) * (32 : Nat) ≤ (140737488355328 : Nat)) (Tree.leaf (none, some ((x.1.1, x.1.2.1, x.1.2.2.1, x.1.2.2.2.1, x.1.2.2.2.2.1, x.1.2.2.2.2.2.1, x.1.2.2.2.2.2.2.1, x.1.2.2.2.2.2.2.2.1, x.1.2.2.2.2.2.2.2.2.1, ()), x.2.1, x.2.2.1, x.2.2.2.1, x.2.2.2.2.1 ++ List.getD x.1.2.2.2.2.2.2.1 (Int.toNat x.1.2.2.2.2.2.2.2.2.1) [], ()))))) := by kernel_rfl
theorem lmk3_tree : (fun x : (List DItem × List (List UInt8) × List (List UInt8) × Int × Int × List (List UInt8) × List (List DItem) × Int × Int × Unit) × LmM => pieceT (mkC tys [] []) (fnOf Tryz.prog 3) [.bool] (lmT lmX) lmM [lmK 3] (mkS (lmT lmX) lmM x)) = (fun x => Tree.leaf (none, some ((x.1.1, x.1.2.1, x.1.2.2.1, x.1.2.2.2.1, x.1.2.2.2.2.1, x.1.2.2.2.2.2.1, x.1.2.2.2.2.2.2.1, x.1.2.2.2.2.2.2.2.1, IntKind.wrap IntKind.i64 (x.1.2.2.2.2.2.2.2.2.1 + (1 : Int)), ()), x.2.1, x.2.2.1, x.2.2.2.1, x.2.2.2.2.1, ()))) := by kernel_rfl
theorem lma_tree : (fun x : (List DItem × List (List UInt8) × List (List UInt8) × Int × Int × List (List UInt8) × List (List DItem) × Int × Int × Unit) × LmM => pieceT (mkC tys lmG []) (fnOf Tryz.prog 3) [.bool] (lmT []) lmM [lmI 8, lmI 9, lmI 10, lmI 11, lmI 12] (mkS (lmT lmX) lmM x)) = (fun x => Tree.need ((0 : Int) ≤ (0 : Int) ∧ (0 : Int) < (↑(List.length x.1.2.2.2.2.2.1) : Int)) (Tree.need (lackP (x.2.2.2.1, (cameF (List.getD x.1.2.2.2.2.2.1 (0 : Nat) [])).1)) (Tree.br (bif !(cameF (List.getD x.1.2.2.2.2.2.1 (0 : Nat) [])).2 then true else (lackF x.2.2.2.1 (cameF (List.getD x.1.2.2.2.2.2.1 (0 : Nat) [])).1).2 != (0 : Int)) (Tree.leaf (some false, none)) (Tree.leaf (none, some ((x.1.1, x.1.2.1, x.1.2.2.1, x.1.2.2.2.1, x.1.2.2.2.2.1, ()), x.2.1, x.2.2.1, (lackF x.2.2.2.1 (cameF (List.getD x.1.2.2.2.2.2.1 (0 : Nat) [])).1).1, x.2.2.2.2.1, ())))))) := by kernel_rfl
theorem lml3_tree : (fun x : (List DItem × List (List UInt8) × List (List UInt8) × Int × Int × Unit) × LmM => pieceT (mkC tys [] []) (fnOf Tryz.prog 3) [.bool] (lmT []) lmM [lmL 3] (mkS (lmT []) lmM x)) = (fun x => Tree.leaf (none, some ((x.1.1, x.1.2.1, x.1.2.2.1, x.1.2.2.2.1, IntKind.wrap IntKind.i64 (x.1.2.2.2.2.1 + (1 : Int)), ()), x.2.1, x.2.2.1, x.2.2.2.1, x.2.2.2.2.1, ()))) := by kernel_rfl
end Go.Ev.Z
/- Two ends that hear each other: the law's last part. -/
set_option linter.unusedVariables false
set_option linter.unusedSimpArgs false
namespace Go.Ev.Z
open Go.Proofs Go.Conc
abbrev M4S := (List DItem × List (List UInt8) × Int × Int × Unit) × DPort × DPort × List DItem × Unit
def m4Pre (x : M4S) : Prop := x.2.2.2.1 = x.1.1 ∧ 0 ≤ x.1.2.2.2.1 ∧ x.1.2.2.2.1 ≤ x.1.2.2.1 ∧ x.1.2.2.1 = x.1.1.length ∧ x.1.2.2.1 ≤ 100000
def m4D : LoopD where
  prom := []
  ts := [(2, .val (.sl gItem)), (7, .ptr 7 gPort), (8, .ptr 8 gPort), (11, .val (.sl .str)), (15, .tip 1015), (176, .val (.int .i64)), (177, .val (.int .i64))]
  bs := [(7, .var gPort), (8, .var gPort), (1015, .row 66 gItem false)]
  pre := fun (x : M4S) => m4Pre x
  out := fun (x : M4S) => .leaf (.exit 4, ((x.1.1, x.1.2.1, x.1.2.2.1, x.1.2.2.1, ()), x.2))
abbrev M6S := (List (List UInt8) × Int × Int × Unit) × DPort × Unit
def m6Pre (x : M6S) : Prop := x.2.1.1 = 1 ∧ x.2.1.2.2.2.2.2.2.2.1.2 = [] ∧ 0 ≤ x.1.2.2.1 ∧ x.1.2.2.1 ≤ x.1.2.1 ∧ x.1.2.1 = x.1.1.length ∧ x.1.2.1 ≤ 100000
def m6D : LoopD where
  prom := []
  ts := [(31, .ptr 31 gPort), (200, .val (.sl .str)), (201, .val (.int .i64)), (202, .val (.int .i64))]
  bs := [(31, .var gPort)]
  pre := fun (x : M6S) => m6Pre x
  out := fun (x : M6S) => .leaf (.exit 6, ((x.1.1, x.1.2.1, x.1.2.1, ()), x.2))
theorem m4_round : (fun x : M4S => roundOf (mkC tys lmG [(4, m4D.spec), (6, m6D.spec)]) m4D (loopB 4 (bodyOf (fnOf Tryz.prog 3))) x) = (fun x => Tree.br (decide (x.1.2.2.2.1 < x.1.2.2.1)) (Tree.need ((0 : Int) ≤ x.1.2.2.2.1 ∧ x.1.2.2.2.1 < (↑(List.length x.2.2.2.1) : Int)) (Tree.need ((0 : Int) ≤ x.1.2.2.2.1 ∧ x.1.2.2.2.1 < (↑(List.length x.1.1) : Int)) (Tree.br (!geq (GTy.prod (GTy.int IntKind.i64) (GTy.prod (GTy.int IntKind.i64) (GTy.prod (GTy.int IntKind.u32) (GTy.int IntKind.i64)))) (List.getD x.2.2.2.1 (Int.toNat x.1.2.2.2.1) ((0 : Int), (0 : Int), (0 : Int), (0 : Int))) (List.getD x.1.1 (Int.toNat x.1.2.2.2.1) ((0 : Int), (0 : Int), (0 : Int), (0 : Int)))) (Tree.leaf (Ex.ret, some ((x.1.1, x.1.2.1, x.1.2.2.1, x.1.2.2.2.1, ()), x.2.1, x.2.2.1, x.2.2.2.1, ()))) (Tree.leaf (Ex.normal, some ((x.1.1, x.1.2.1, x.1.2.2.1, IntKind.wrap IntKind.i64 (x.1.2.2.2.1 + (1 : Int)), ()), x.2.1, x.2.2.1, x.2.2.2.1, ())))))) (Tree.leaf (Ex.exit (4 : Nat), some ((x.1.1, x.1.2.1, x.1.2.2.1, x.1.2.2.2.1, ()), x.2.1, x.2.2.1, x.2.2.2.1, ())))) := by kernel_rfl
theorem m6_round : (fun x : M6S => roundOf (mkC tys lmG [(4, m4D.spec), (6, m6D.spec)]) m6D (loopB 6 (bodyOf (fnOf Tryz.prog 3))) x) = (fun x => Tree.br (decide (x.1.2.2.1 < x.1.2.1)) (Tree.need ((0 : Int) ≤ x.1.2.2.1 ∧ x.1.2.2.1 < (↑(List.length x.1.1) : Int)) (Tree.need (lpartP (x.2.1, (2 : Int), (toldF (List.getD x.1.1 (Int.toNat x.1.2.2.1) [])).1)) (Tree.br ((lpartF x.2.1 (2 : Int) (toldF (List.getD x.1.1 (Int.toNat x.1.2.2.1) [])).1).2.2.2 != (6 : Int)) (Tree.leaf (Ex.ret, some ((x.1.1, x.1.2.1, x.1.2.2.1, ()), x.2.1, ()))) (Tree.leaf (Ex.normal, some ((x.1.1, x.1.2.1, IntKind.wrap IntKind.i64 (x.1.2.2.1 + (1 : Int)), ()), x.2.1, ())))))) (Tree.leaf (Ex.exit (6 : Nat), some ((x.1.1, x.1.2.1, x.1.2.2.1, ()), x.2.1, ())))) := by kernel_rfl
@[reducible] def lmU : List (Nat × Sh) := [(2, .val (.sl gItem)), (7, .ptr 7 gPort), (8, .ptr 8 gPort), (10, .ptr 10 gPort), (11, .val (.sl .str)), (15, .tip 1015)]
theorem lmt_tree : (fun x : (List DItem × List (List UInt8) × Unit) × LmM => pieceT (mkC tys lmG [(4, m4D.spec), (6, m6D.spec)]) (fnOf Tryz.prog 3) [.bool] [] [] [lmB 12, lmB 13, lmB 14, lmB 15, lmB 16, lmB 17, lmB 18, lmB 19, lmB 20, lmB 21, lmB 22] (mkS lmU lmM x)) = (fun x => Tree.br (bif bif (↑(List.length x.2.2.2.2.1) : Int) != (↑(List.length x.1.1) : Int) then true else !idleF x.2.2.2.1.2.2.2.2.2 then true else !idleF x.2.2.1.2.2.2.2.2) (Tree.leaf (some false, none)) (Tree.need (m4Pre ((x.1.1, x.1.2.1, (↑(List.length x.1.1) : Int), (0 : Int), PUnit.unit), x.2.1, x.2.2.1, x.2.2.2.2.1, PUnit.unit)) (Tree.br ((lagainF x.2.2.1 x.2.1.2.1).2 != (0 : Int)) (Tree.leaf (some true, none)) (Tree.need (m6Pre ((x.1.2.1, (↑(List.length x.1.2.1) : Int), (0 : Int), PUnit.unit), (lagainF x.2.2.1 x.2.1.2.1).1, PUnit.unit)) (Tree.leaf (some true, none)))))) := by kernel_rfl
end Go.Ev.Z
/- Two ends that hear each other: the whole. -/
set_option linter.unusedVariables false
set_option linter.unusedSimpArgs false
namespace Go.Ev.Z
open Go.Proofs Go.Conc
theorem m4_loop : LoopOK (mkC tys lmG [(4, m4D.spec), (6, m6D.spec)]) m4D.spec (loopB 4 (bodyOf (fnOf Tryz.prog 3))) :=
  loopD_ok1 (fun _ => rfl) (fun x => congrFun m4_round x) (fun (x : M4S) => (x.1.2.2.1 - x.1.2.2.2.1).toNat) fun (x : M4S) hp => by
    obtain ⟨⟨l, out, len, i, ⟨⟩⟩, a, b, got, ⟨⟩⟩ := x
    obtain ⟨h1, h2, h3, h4, h5⟩ := hp
    simp only at h1 h2 h3 h4 h5
    subst h1
    simp only [Tree.holds]
    refine ⟨fun h => ?_, fun h => ?_⟩
    · have h' : i < len := of_decide_eq_true h
      rw [i64_id (n := i + 1) (by omega) (by omega)]
      refine ⟨⟨h2, by omega⟩, ⟨h2, by omega⟩, fun g => ?_, fun _ => ⟨_, rfl, ⟨rfl, by show 0 ≤ i + 1; omega, by show i + 1 ≤ len; omega, h4, h5⟩, by show (len - (i + 1)).toNat < (len - i).toNat; omega, rfl⟩⟩
      rw [geq_self _ _ (by rfl)] at g
      cases g
    · have h' : ¬ i < len := of_decide_eq_false h
      have hi : i = len := by omega
      subst hi
      exact ⟨_, rfl, rfl⟩
theorem part_old {p : DPort} (h : p.1 = 1) (n : Int) (x : DPart) : (lpartF p n x).2.2.2 = 6 := by
  unfold lpartF
  rw [h]
  rfl
theorem m6_loop : LoopOK (mkC tys lmG [(4, m4D.spec), (6, m6D.spec)]) m6D.spec (loopB 6 (bodyOf (fnOf Tryz.prog 3))) :=
  loopD_ok1 (fun _ => rfl) (fun x => congrFun m6_round x) (fun (x : M6S) => (x.1.2.1 - x.1.2.2.1).toNat) fun (x : M6S) hp => by
    obtain ⟨⟨out, len, i, ⟨⟩⟩, p, ⟨⟩⟩ := x
    obtain ⟨h0, h1, h2, h3, h4, h5⟩ := hp
    simp only at h0 h1 h2 h3 h4 h5
    simp only [Tree.holds]
    refine ⟨fun h => ?_, fun h => ?_⟩
    · have h' : i < len := of_decide_eq_true h
      rw [i64_id (n := i + 1) (by omega) (by omega)]
      refine ⟨⟨h2, by omega⟩, ?_, fun g => ?_, fun _ => ⟨_, rfl, ⟨h0, h1, by show 0 ≤ i + 1; omega, by show i + 1 ≤ len; omega, h4, h5⟩, by show (len - (i + 1)).toNat < (len - i).toNat; omega, rfl⟩⟩
      · show takePre (p.2.2.2.2.2.2.2.1, _)
        refine ⟨?_, ?_⟩
        · show p.2.2.2.2.2.2.2.1.2.length ≤ 1000
          rw [h1]
          simp
        · show ∀ y ∈ p.2.2.2.2.2.2.2.1.2, _
          rw [h1]
          intro y hy
          cases hy
      · rw [part_old h0] at g
        cases g
    · have h' : ¬ i < len := of_decide_eq_false h
      have hi : i = len := by omega
      subst hi
      exact ⟨_, rfl, rfl⟩
theorem lm_all : seqs (bodyOf (fnOf Tryz.prog 3)) = [lmB 0, lmB 1, lmB 2, lmB 3, lmB 4, lmB 5, lmB 6, lmB 7, lmB 8, lmB 9, lmB 10, lmB 11, lmB 12, lmB 13, lmB 14, lmB 15, lmB 16, lmB 17, lmB 18, lmB 19, lmB 20, lmB 21, lmB 22] := by kernel_rfl
theorem lm_nd : nodupN ((loopsOf (bodyOf (fnOf Tryz.prog 3))).map (·.1)) = true := by kernel_rfl
theorem lm_n : (fnOf Tryz.prog 3).ntmps = 223 := by kernel_rfl
theorem lm_11 : lmB 11 = .block 0 (.loop (loopB 0 (bodyOf (fnOf Tryz.prog 3)))) := by kernel_rfl
theorem lml_loop : seqs (loopB 0 (bodyOf (fnOf Tryz.prog 3))) = [lmL 0, lmL 1, lmL 2, lmL 3] := by kernel_rfl
theorem lml_1 : lmL 1 = .cond (.tmp 99) .skip (.exit 0) := by kernel_rfl
theorem lml_2 : lmL 2 = .block 1 (rIn (lmL 2)) := by kernel_rfl
theorem lmi_in : seqs (rIn (lmL 2)) = [lmI 0, lmI 1, lmI 2, lmI 3, lmI 4, lmI 5, lmI 6, lmI 7, lmI 8, lmI 9, lmI 10, lmI 11, lmI 12] := by kernel_rfl
theorem lmi_7 : lmI 7 = .block 2 (.loop (loopB 2 (bodyOf (fnOf Tryz.prog 3)))) := by kernel_rfl
theorem lmk_loop : seqs (loopB 2 (bodyOf (fnOf Tryz.prog 3))) = [lmK 0, lmK 1, lmK 2, lmK 3] := by kernel_rfl
theorem lmk_1 : lmK 1 = .cond (.tmp 130) .skip (.exit 2) := by kernel_rfl
theorem lmk_2 : lmK 2 = .block 3 (rIn (lmK 2)) := by kernel_rfl
theorem lmj_in : seqs (rIn (lmK 2)) = [lmJ 0, lmJ 1] := by kernel_rfl
attribute [local irreducible] fnOf bodyOf
theorem take_flat {ms : List (List DItem)} {j : Nat} (h : j < ms.length) : (ms.take (j + 1)).flatten = (ms.take j).flatten ++ ms.getD j [] := by
  rw [List.take_add_one, List.flatten_append]
  simp [List.getD, h]
section
variable {R0 : Ref} {b : Frame} {Q : Exit → Act → World → Prop} {W : Nat → Option Obj} {a : Act} {w : World}
noncomputable abbrev lmFn : Func := fnOf Tryz.prog 3
theorem lmk_round {l : List DItem} {out : List (List UInt8)} {len i j : Int} {back : List (List UInt8)} {ms : List (List DItem)} {x y z : DPort} {got : List DItem} (hms : ms.length ≤ 100000) (h40 : (got ++ ms.flatten).length ≤ 40) (h0 : 0 ≤ j) (h1 : j ≤ ms.length)
    (h : Kd R0 (fun _ => False) W 223 [] (mkS (lmT lmX) lmM ((l, out, out, len, i, back, ms, (ms.length : Int), j, ()), (x, y, z, got ++ (ms.take j.toNat).flatten, ()))) a w)
    (hgo : j < ms.length → ∀ a' w', Kd R0 (fun _ => False) W 223 [] (mkS (lmT lmX) lmM ((l, out, out, len, i, back, ms, (ms.length : Int), j + 1, ()), (x, y, z, got ++ (ms.take (j + 1).toNat).flatten, ()))) a' w' → Q .normal a' w')
    (hend : ¬ j < ms.length → ∀ a' w', Kd R0 (fun _ => False) W 223 [] (mkS (lmT lmX) lmM ((l, out, out, len, i, back, ms, (ms.length : Int), j, ()), (x, y, z, got ++ (ms.take j.toNat).flatten, ()))) a' w' → Q (.exit 2) a' w') :
    CodeTo Tryz.prog b (loopB 2 (bodyOf lmFn)) Q a w := by
  refine CodeTo.seqs ?_
  rw [lmk_loop]
  show LTo Tryz.prog b ([lmK 0] ++ [lmK 1, lmK 2, lmK 3]) _ a w
  refine h.piece (C := mkC tys [] []) tysOK ctrs_nil mixed (fn := lmFn) (res := [.bool]) (ts := lmT ((21, .val (.sl .str)) :: (127, .val (.sl (.sl gItem))) :: (128, .val (.int .i64)) :: (129, .val (.int .i64)) :: [(130, .val .bool)])) (bs := lmM) (G := fun v => v = (none, some ((l, out, out, len, i, back, ms, (ms.length : Int), j, decide (j < ms.length), ()), (x, y, z, got ++ (ms.take j.toNat).flatten, ())))) (by kernel_rfl) (by kernel_rfl) ?_ ?_ ?_ (fun h => by cases h)
  · have k8 : pieceT (mkC tys [] []) lmFn [.bool] (lmT ((21, .val (.sl .str)) :: (127, .val (.sl (.sl gItem))) :: (128, .val (.int .i64)) :: (129, .val (.int .i64)) :: [(130, .val .bool)])) lmM [lmK 0] (mkS (lmT lmX) lmM ((l, out, out, len, i, back, ms, (ms.length : Int), j, ()), (x, y, z, got ++ (ms.take j.toNat).flatten, ()))) = _ := congrFun lmk0_tree ((l, out, out, len, i, back, ms, (ms.length : Int), j, ()), (x, y, z, got ++ (ms.take j.toNat).flatten, ()))
    exact (congrArg (Tree.holds _) k8).mpr rfl
  · intro v s' a' w' hy; cases hy
  intro v a1 w1 hz k1
  have hz' := Option.some.inj (Prod.mk.inj hz).2
  subst hz'
  refine LTo.cons ?_
  rw [lmk_1]
  refine CodeTo.cond (t := decide (j < ms.length)) (k1.old.bool rfl) ?_
  have k2 := k1.restr (L := { prom := [], keep := (lmT lmX).map (·.1), boxes := lmM.map (·.1), sum := fun _ => .stuck }) (s' := mkS (lmT lmX) lmM ((l, out, out, len, i, back, ms, (ms.length : Int), j, ()), (x, y, z, got ++ (ms.take j.toNat).flatten, ()))) (by kernel_rfl)
  cases hlt : decide (j < (ms.length : Int)) with
  | false =>
    rw [if_neg (by simp)]
    refine CodeTo.exit ?_
    exact hend (of_decide_eq_false hlt) a1 w1 k2
  | true =>
    have hlt' := of_decide_eq_true hlt
    have hle := flat_take_le ms j.toNat (by omega)
    rw [List.length_append] at h40
    have hn : (j + 1).toNat = j.toNat + 1 := by omega
    rw [if_pos rfl]
    refine CodeTo.skip ?_
    refine LTo.cons ?_
    rw [lmk_2]
    refine CodeTo.block ?_
    refine CodeTo.seqs ?_
    rw [lmj_in]
    show LTo Tryz.prog b ([lmJ 0, lmJ 1] ++ []) _ a1 w1
    refine k2.piece (C := mkC tys [] []) tysOK ctrs_nil mixed (fn := lmFn) (res := [.bool]) (ts := lmT lmX) (bs := lmM) (G := fun v => v = (none, some ((l, out, out, len, i, back, ms, (ms.length : Int), j, ()), (x, y, z, got ++ (ms.take (j + 1).toNat).flatten, ())))) (by kernel_rfl) (by kernel_rfl) ?_ ?_ ?_ (fun h => by cases h)
    · have k8 : pieceT (mkC tys [] []) lmFn [.bool] (lmT lmX) lmM [lmJ 0, lmJ 1] (mkS (lmT lmX) lmM ((l, out, out, len, i, back, ms, (ms.length : Int), j, ()), (x, y, z, got ++ (ms.take j.toNat).flatten, ()))) = _ := congrFun lmk2_tree ((l, out, out, len, i, back, ms, (ms.length : Int), j, ()), (x, y, z, got ++ (ms.take j.toNat).flatten, ()))
      refine (congrArg (Tree.holds _) k8).mpr ⟨⟨h0, hlt'⟩, ?_, ?_⟩
      · show ((got ++ (ms.take j.toNat).flatten).length + (ms.getD j.toNat []).length) * 32 ≤ 140737488355328
        rw [List.length_append]
        omega
      · show (none, some ((l, out, out, len, i, back, ms, (ms.length : Int), j, ()), (x, y, z, (got ++ (ms.take j.toNat).flatten) ++ ms.getD j.toNat [], ()))) = _
        rw [hn, take_flat (by omega), List.append_assoc]
    · intro v s' a' w' hy; cases hy
    intro v a2 w2 hz k3
    have hz' := Option.some.inj (Prod.mk.inj hz).2
    subst hz'
    show LTo Tryz.prog b ([lmK 3] ++ []) _ a2 w2
    refine k3.piece (C := mkC tys [] []) tysOK ctrs_nil mixed (fn := lmFn) (res := [.bool]) (ts := lmT lmX) (bs := lmM) (G := fun v => v = (none, some ((l, out, out, len, i, back, ms, (ms.length : Int), j + 1, ()), (x, y, z, got ++ (ms.take (j + 1).toNat).flatten, ())))) (by kernel_rfl) (by kernel_rfl) ?_ ?_ ?_ (fun h => by cases h)
    · have k8 : pieceT (mkC tys [] []) lmFn [.bool] (lmT lmX) lmM [lmK 3] (mkS (lmT lmX) lmM ((l, out, out, len, i, back, ms, (ms.length : Int), j, ()), (x, y, z, got ++ (ms.take (j + 1).toNat).flatten, ()))) = _ := congrFun lmk3_tree ((l, out, out, len, i, back, ms, (ms.length : Int), j, ()), (x, y, z, got ++ (ms.take (j + 1).toNat).flatten, ()))
      refine (congrArg (Tree.holds _) k8).mpr ?_
      show (none, some ((l, out, out, len, i, back, ms, (ms.length : Int), IntKind.i64.wrap (j + 1), ()), (x, y, z, got ++ (ms.take (j + 1).toNat).flatten, ()))) = _
      rw [i64_id (n := j + 1) (by omega) (by omega)]
    · intro v s' a' w' hy; cases hy
    intro v a3 w3 hz k4
    have hz' := Option.some.inj (Prod.mk.inj hz).2
    subst hz'
    exact hgo hlt' a3 w3 k4
end
end Go.Ev.Z
/- Two ends that hear each other: all of it. -/
set_option linter.unusedVariables false
set_option linter.unusedSimpArgs false
namespace Go.Ev.Z
open Go.Proofs Go.Conc
attribute [local irreducible] fnOf bodyOf
section
variable {R0 : Ref} {b0 : Frame} {Q : Exit → Act → World → Prop} {W : Nat → Option Obj} {a0 : Act} {w0 : World}
def lmkI (R0 : Ref) (W : Nat → Option Obj) (l : List DItem) (out : List (List UInt8)) (len i : Int) (back : List (List UInt8)) (ms : List (List DItem)) (x y z : DPort) (got : List DItem) (m : Nat) (a : Act) (w : World) : Prop :=
  ∃ j : Int, 0 ≤ j ∧ j ≤ ms.length ∧ (m : Int) = ms.length - j ∧ Kd R0 (fun _ => False) W 223 [] (mkS (lmT lmX) lmM ((l, out, out, len, i, back, ms, (ms.length : Int), j, ()), (x, y, z, got ++ (ms.take j.toNat).flatten, ()))) a w
theorem lm_round {a b : Int × Int} (ha : EpIn a) (hb : EpIn b) {l : List DItem} (h40 : l.length ≤ 40) {i : Int} {x y z : DPort} {got : List DItem} (h0 : 0 ≤ i) (h1 : i ≤ (outL a b l).length) (hc : CarL a b l i.toNat z y got)
    (h : Kd R0 (fun _ => False) W 223 [] (mkS (lmT []) lmM ((l, outL a b l, outL a b l, ((outL a b l).length : Int), i, ()), (x, y, z, got, ()))) a0 w0)
    (hgo : i < (outL a b l).length → ∀ y' z' got' a' w', CarL a b l (i + 1).toNat z' y' got' → Kd R0 (fun _ => False) W 223 [] (mkS (lmT []) lmM ((l, outL a b l, outL a b l, ((outL a b l).length : Int), i + 1, ()), (x, y', z', got', ()))) a' w' → Q .normal a' w')
    (hend : ¬ i < (outL a b l).length → ∀ a' w', Kd R0 (fun _ => False) W 223 [] (mkS (lmT []) lmM ((l, outL a b l, outL a b l, ((outL a b l).length : Int), i, ()), (x, y, z, got, ()))) a' w' → Q (.exit 0) a' w') :
    CodeTo Tryz.prog b0 (loopB 0 (bodyOf lmFn)) Q a0 w0 := by
  have h8 : (outL a b l).length ≤ 8 := by rw [outL_len]; exact pieces_eight h40
  obtain ⟨c1, c2, c3⟩ := car_got h40 hc
  have hnx := fun hi => car_next ha hb h40 hc hi
  generalize hout : outL a b l = out at *
  refine CodeTo.seqs ?_
  rw [lml_loop]
  show LTo Tryz.prog b0 ([lmL 0] ++ [lmL 1, lmL 2, lmL 3]) _ a0 w0
  refine h.piece (C := mkC tys [] []) tysOK ctrs_nil mixed (fn := lmFn) (res := [.bool]) (ts := lmT [(99, .val .bool)]) (bs := lmM) (G := fun v => v = (none, some ((l, out, out, (out.length : Int), i, decide (i < out.length), ()), (x, y, z, got, ())))) (by kernel_rfl) (by kernel_rfl) ?_ ?_ ?_ (fun h => by cases h)
  · have k8 : pieceT (mkC tys [] []) lmFn [.bool] (lmT [(99, .val .bool)]) lmM [lmL 0] (mkS (lmT []) lmM ((l, out, out, (out.length : Int), i, ()), (x, y, z, got, ()))) = _ := congrFun lml0_tree ((l, out, out, (out.length : Int), i, ()), (x, y, z, got, ()))
    exact (congrArg (Tree.holds _) k8).mpr rfl
  · intro v s' a' w' hy; cases hy
  intro v a1 w1 hz k1
  have hz' := Option.some.inj (Prod.mk.inj hz).2
  subst hz'
  refine LTo.cons ?_
  rw [lml_1]
  refine CodeTo.cond (t := decide (i < out.length)) (k1.old.bool rfl) ?_
  have k2 := k1.restr (L := { prom := [], keep := (lmT []).map (·.1), boxes := lmM.map (·.1), sum := fun _ => .stuck }) (s' := mkS (lmT []) lmM ((l, out, out, (out.length : Int), i, ()), (x, y, z, got, ()))) (by kernel_rfl)
  cases hlt : decide (i < (out.length : Int)) with
  | false =>
    rw [if_neg (by simp)]
    refine CodeTo.exit ?_
    exact hend (of_decide_eq_false hlt) a1 w1 k2
  | true =>
    have hlt' := of_decide_eq_true hlt
    obtain ⟨p, y', z', ms, c, e1, e2, e3, e4, e5, e6⟩ := hnx (by omega)
    obtain ⟨d1, d2, d3⟩ := car_got h40 e5
    rw [if_pos rfl]
    refine CodeTo.skip ?_
    refine LTo.cons ?_
    rw [lml_2]
    refine CodeTo.block ?_
    refine CodeTo.seqs ?_
    rw [lmi_in]
    show LTo Tryz.prog b0 ([lmI 0, lmI 1, lmI 2, lmI 3, lmI 4, lmI 5, lmI 6] ++ [lmI 7, lmI 8, lmI 9, lmI 10, lmI 11, lmI 12]) _ a1 w1
    refine k2.piece (C := mkC tys lmG []) tysOK lmG_ok mixed (fn := lmFn) (res := [.bool]) (ts := lmT lmX) (bs := lmM) (G := fun v => v = (none, some ((l, out, out, (out.length : Int), i, [frAck c], ms, (ms.length : Int), 0, ()), (x, y', z, got, ())))) (by kernel_rfl) (by kernel_rfl) ?_ ?_ ?_ (fun h => by cases h)
    · have k8 : pieceT (mkC tys lmG []) lmFn [.bool] (lmT lmX) lmM [lmI 0, lmI 1, lmI 2, lmI 3, lmI 4, lmI 5, lmI 6] (mkS (lmT []) lmM ((l, out, out, (out.length : Int), i, ()), (x, y, z, got, ()))) = _ := congrFun lmi_tree ((l, out, out, (out.length : Int), i, ()), (x, y, z, got, ()))
      refine (congrArg (Tree.holds _) k8).mpr ?_
      simp only [Tree.holds, e1, e2]
      refine ⟨⟨h0, hlt'⟩, ?_, fun g => (by cases g), fun _ => rfl⟩
      show takePre (y.2.2.2.2.2.2.2.1, p)
      refine ⟨?_, ?_⟩
      · show y.2.2.2.2.2.2.2.1.2.length ≤ 1000
        rw [c3]
        simp
      · show ∀ u ∈ y.2.2.2.2.2.2.2.1.2, _
        rw [c3]
        intro u hu
        cases hu
    · intro v s' a' w' hy; cases hy
    intro v a2 w2 hz k3
    have hz' := Option.some.inj (Prod.mk.inj hz).2
    subst hz'
    refine LTo.cons ?_
    rw [lmi_7]
    refine CodeTo.block ?_
    refine CodeTo.loop (lmkI R0 W l out (out.length : Int) i [frAck c] ms x y' z got) ms.length ⟨0, by omega, by omega, by omega, ?_⟩ ?_
    · have e : got ++ (ms.take (0 : Int).toNat).flatten = got := by simp
      rw [e]
      exact k3
    rintro m a3 w3 ⟨j, j1, j2, j3, j4⟩
    refine lmk_round (by omega) d1 j1 j2 j4 (fun hl a4 w4 k4 => ⟨m - 1, by omega, j + 1, by omega, by omega, by omega, k4⟩) fun hl a4 w4 k4 => ?_
    have hj : ms.take j.toNat = ms := List.take_of_length_le (by omega)
    rw [hj] at k4
    show LTo Tryz.prog b0 ([lmI 8, lmI 9, lmI 10, lmI 11, lmI 12] ++ []) _ a4 w4
    refine k4.piece (C := mkC tys lmG []) tysOK lmG_ok mixed (fn := lmFn) (res := [.bool]) (ts := lmT []) (bs := lmM) (G := fun v => v = (none, some ((l, out, out, (out.length : Int), i, ()), (x, y', z', got ++ ms.flatten, ())))) (by kernel_rfl) (by kernel_rfl) ?_ ?_ ?_ (fun h => by cases h)
    · have k8 : pieceT (mkC tys lmG []) lmFn [.bool] (lmT []) lmM [lmI 8, lmI 9, lmI 10, lmI 11, lmI 12] (mkS (lmT lmX) lmM ((l, out, out, (out.length : Int), i, [frAck c], ms, (ms.length : Int), j, ()), (x, y', z, got ++ ms.flatten, ()))) = _ := congrFun lma_tree ((l, out, out, (out.length : Int), i, [frAck c], ms, (ms.length : Int), j, ()), (x, y', z, got ++ ms.flatten, ()))
      refine (congrArg (Tree.holds _) k8).mpr ?_
      simp only [Tree.holds, List.getD_cons_zero, e3, e4]
      exact ⟨⟨by omega, by show (0 : Int) < 1; omega⟩, c2, fun g => (by cases g), fun _ => rfl⟩
    · intro v s' a' w' hy; cases hy
    intro v a5 w5 hz k5
    have hz' := Option.some.inj (Prod.mk.inj hz).2
    subst hz'
    show LTo Tryz.prog b0 ([lmL 3] ++ []) _ a5 w5
    refine k5.piece (C := mkC tys [] []) tysOK ctrs_nil mixed (fn := lmFn) (res := [.bool]) (ts := lmT []) (bs := lmM) (G := fun v => v = (none, some ((l, out, out, (out.length : Int), i + 1, ()), (x, y', z', got ++ ms.flatten, ())))) (by kernel_rfl) (by kernel_rfl) ?_ ?_ ?_ (fun h => by cases h)
    · have k8 : pieceT (mkC tys [] []) lmFn [.bool] (lmT []) lmM [lmL 3] (mkS (lmT []) lmM ((l, out, out, (out.length : Int), i, ()), (x, y', z', got ++ ms.flatten, ()))) = _ := congrFun lml3_tree ((l, out, out, (out.length : Int), i, ()), (x, y', z', got ++ ms.flatten, ()))
      refine (congrArg (Tree.holds _) k8).mpr ?_
      show (none, some ((l, out, out, (out.length : Int), IntKind.i64.wrap (i + 1), ()), (x, y', z', got ++ ms.flatten, ()))) = _
      rw [i64_id (n := i + 1) (by omega) (by omega)]
    · intro v s' a' w' hy; cases hy
    intro v a6 w6 hz k6
    have hz' := Option.some.inj (Prod.mk.inj hz).2
    subst hz'
    refine hgo hlt' y' z' (got ++ ms.flatten) a6 w6 ?_ k6
    rw [show (i + 1).toNat = i.toNat + 1 by omega]
    exact e5
end
end Go.Ev.Z
/- Two ends that hear each other: the law. -/
set_option linter.unusedVariables false
set_option linter.unusedSimpArgs false
namespace Go.Ev.Z
open Go.Proofs Go.Conc
attribute [local irreducible] fnOf bodyOf
def lmeI (R0 : Ref) (W : Nat → Option Obj) (a b : Int × Int) (l : List DItem) (x : DPort) (m : Nat) (a' : Act) (w' : World) : Prop :=
  ∃ (i : Int) (y z : DPort) (got : List DItem), 0 ≤ i ∧ i ≤ (outL a b l).length ∧ (m : Int) = (outL a b l).length - i ∧ CarL a b l i.toNat z y got ∧ Kd R0 (fun _ => False) W 223 [] (mkS (lmT []) lmM ((l, outL a b l, outL a b l, ((outL a b l).length : Int), i, ()), (x, y, z, got, ()))) a' w'
theorem resArgs_ctx {τ : Tys} {G G' : List (Nat × Ctr)} {Λ Λ' : List (Nat × LoopSpec)} {s : St} : ∀ l, resArgs (mkC τ G Λ) s l = resArgs (mkC τ G' Λ') s l
  | [] => rfl
  | r :: l => by
    simp only [resArgs, resArgs_ctx (G := G) (Λ := Λ) (G' := G') (Λ' := Λ') l]
    have : resArg (mkC τ G Λ) s r = resArg (mkC τ G' Λ') s r := by cases r <;> rfl
    rw [this]
theorem evRes_ctx {τ : Tys} {G G' : List (Nat × Ctr)} {Λ Λ' : List (Nat × LoopSpec)} {fn : Func} {res : List GTy} {p : Ex × St} : evRes (mkC τ G Λ) fn res p = evRes (mkC τ G' Λ') fn res p := by
  obtain ⟨e, s⟩ := p
  cases e <;> simp only [evRes, resArgs_ctx (G := G) (Λ := Λ) (G' := G') (Λ' := Λ')]
theorem lm_first {a b : Int × Int} {l : List DItem} (hwa : wt gE a) (hwb : wt gE b) (hwl : ∀ x ∈ l, wtI x) :
    (pieceT (mkC tys lmG []) lmFn [.bool] lmTn lmMn [lmB 0, lmB 1, lmB 2, lmB 3, lmB 4, lmB 5, lmB 6, lmB 7, lmB 8, lmB 9, lmB 10] { tmps := number 0 (resL [gE, gE, .sl gItem] (a, b, l)), boxes := [] }).holds fun v =>
      v = (some true, none) ∨ (EpIn a ∧ EpIn b ∧ MsgIn l ∧ l.length ≤ 40 ∧ ∃ z, CarL a b l 0 z (2, b, a, 0, 0, noMrl) [] ∧ v = (none, some ((l, outL a b l, outL a b l, ((outL a b l).length : Int), 0, ()), ((2, a, b, 0, 1, noMrl), (2, b, a, 0, 0, noMrl), z, ())))) := by
  have k8 : pieceT (mkC tys lmG []) lmFn [.bool] lmTn lmMn [lmB 0, lmB 1, lmB 2, lmB 3, lmB 4, lmB 5, lmB 6, lmB 7, lmB 8, lmB 9, lmB 10] { tmps := number 0 (resL [gE, gE, .sl gItem] (a, b, l)), boxes := [] } = _ := congrFun lm0_tree (a, b, l)
  refine (congrArg (Tree.holds _) k8).mpr ?_
  simp only [Tree.holds]
  refine ⟨fun _ => .inl rfl, fun g => ?_⟩
  have ga : noneF a = false := by
    cases hh : noneF a with
    | true => rw [hh] at g; cases g
    | false => rfl
  have gb : noneF b = false := by
    cases hh : noneF b with
    | true => rw [ga, hh] at g; cases g
    | false => rfl
  have h40 : l.length ≤ 40 := by
    cases hd : decide ((l.length : Int) > 40) with
    | true => rw [ga, gb, hd] at g; cases g
    | false => have := of_decide_eq_false hd; omega
  have ha : EpIn a := ⟨hwa, ga⟩
  have hb : EpIn b := ⟨hwb, gb⟩
  refine ⟨⟨ha, hb⟩, fun g2 => ?_, fun _ => ⟨?_, fun g2 => ?_, fun g2 => ?_⟩⟩
  · exfalso
    have e1 : sameF ((metF (a, b)).1.2.1, (metF (a, b)).1.2.2.1) ((metF (a, b)).2.1.2.1, (metF (a, b)).2.1.2.2.1) = true := same_pair hb ha
    have e2 : sameF ((metF (a, b)).2.1.2.1, (metF (a, b)).2.1.2.2.1) ((metF (a, b)).1.2.1, (metF (a, b)).1.2.2.1) = true := same_pair ha hb
    rw [e1, e2] at g2
    cases g2
  · exact ⟨by show (0 : Int) ≤ 1; omega, by show (1 : Int) < 16; omega, by show (0 : Int) ≤ 0; omega, by show (0 : Int) ≤ 60000; omega, by show (1 : Int) ≤ 2; omega, fun x hx => (by cases hx)⟩
  · rcases car_refuse (p := (metF (a, b)).1) h40 rfl rfl hwl with ⟨q1, q2⟩ | hm
    · have q3 : ((allF l).2 != (0 : Int)) = true := by simpa using q1
      rw [q3]
      exact .inl rfl
    · exfalso
      obtain ⟨z, q1, q2⟩ := car_begin ha hb hm h40
      have g3 : ((lsendF (2, a, b, 0, 1, noMrl) 1 l rules22).2.2 != (0 : Int)) = true := g2
      rw [q1] at g3
      cases g3
  · rcases car_refuse (p := (metF (a, b)).1) h40 rfl rfl hwl with ⟨q1, q2⟩ | hm
    · exfalso
      have g3 : ((lsendF (metF (a, b)).1 1 l rules22).2.2 != (0 : Int)) = false := g2
      rw [bne_eq_false_iff_eq] at g3
      exact q2 g3
    · obtain ⟨z, q1, q2⟩ := car_begin ha hb hm h40
      refine .inr ⟨ha, hb, hm, h40, z, q2, ?_⟩
      have q3 : lsendF (metF (a, b)).1 (1 : Int) l ((1 : Int), (5 : Int), (2 : Int), (3 : Int)) = (z, outL a b l, 0) := q1
      rw [q3]
      rfl
theorem lm_last {a b : Int × Int} {l : List DItem} (h40 : l.length ≤ 40) {x y z : DPort} {got : List DItem} (h1 : idleF z.2.2.2.2.2 = true) (h2 : idleF y.2.2.2.2.2 = true) (h3 : got = l) :
    (pieceT (mkC tys lmG [(4, m4D.spec), (6, m6D.spec)]) lmFn [.bool] [] [] [lmB 12, lmB 13, lmB 14, lmB 15, lmB 16, lmB 17, lmB 18, lmB 19, lmB 20, lmB 21, lmB 22] (mkS lmU lmM ((l, outL a b l, ()), (x, y, z, got, ())))).holds fun v => v = (some true, none) := by
  have h8 : (outL a b l).length ≤ 8 := by rw [outL_len]; exact pieces_eight h40
  have k8 : pieceT (mkC tys lmG [(4, m4D.spec), (6, m6D.spec)]) lmFn [.bool] [] [] [lmB 12, lmB 13, lmB 14, lmB 15, lmB 16, lmB 17, lmB 18, lmB 19, lmB 20, lmB 21, lmB 22] (mkS lmU lmM ((l, outL a b l, ()), (x, y, z, got, ()))) = _ := congrFun lmt_tree ((l, outL a b l, ()), (x, y, z, got, ()))
  refine (congrArg (Tree.holds _) k8).mpr ?_
  subst h3
  simp only [Tree.holds]
  refine ⟨fun g => ?_, fun _ => ⟨⟨rfl, Int.le_refl _, by show (0 : Int) ≤ (got.length : Int); omega, rfl, by show (got.length : Int) ≤ 100000; omega⟩, fun _ => trivial, fun g => ⟨?_, trivial⟩⟩⟩
  · rw [h1, h2] at g
    simp at g
  · rw [bne_eq_false_iff_eq] at g
    obtain ⟨e1, e2⟩ := lagain_new g
    exact ⟨e1, e2, Int.le_refl _, by show (0 : Int) ≤ ((outL a b got).length : Int); omega, rfl, by show ((outL a b got).length : Int) ≤ 100000; omega⟩
def lmeetsC : Ctr := { args := [gE, gE, .sl gItem], res := [.bool], pre := some (smallD [gE, gE, .sl gItem]), fn := fun (_ : (Int × Int) × (Int × Int) × List DItem) => true }
theorem lmeets_ok : CtrOK Tryz.prog 3 lmeetsC :=
  ctr_of_to (C := mkC tys lmG []) tysOK (by kernel_rfl) (by kernel_rfl) (by kernel_rfl) (fun x => by rw [lm_n]; show 3 ≤ 223; omega) fun R0 b0 (x : (Int × Int) × (Int × Int) × List DItem) a0 hbk hw hpre h0 hsz0 hd0 => by
    rw [lm_n] at hsz0
    obtain ⟨a, b, l⟩ := x
    have hwl : ∀ x ∈ l, wtI x := wt_items hw.2.2
    rw [lm_all]
    have k0 := Kd.start (W := fun _ => none) (n := 223) (sl := []) (D := []) h0 hsz0 hd0 (fun _ h => by cases h)
    have fin : ∀ (G : List (Nat × Ctr)) (Λ : List (Nat × LoopSpec)) (s' : St) (a' : Act) (w' : World) (y : Bool), y = true → IsSt R0 s' a' w' → a'.defers = [] → (evRes (mkC tys G Λ) lmFn [.bool] (.normal, s')).holds (fun z => z = y) → finQ (mkC tys lmG []) lmFn lmeetsC.res R0 (lmeetsC.fn (a, b, l)) .ret a' w' := by
      intro G Λ s' a' w' y hy j1 j2 j3
      rw [hy, evRes_ctx (G' := lmG) (Λ' := [])] at j3
      exact ⟨.inr rfl, j2, s', j1, j3⟩
    show LTo Tryz.prog b0 ([lmB 0, lmB 1, lmB 2, lmB 3, lmB 4, lmB 5, lmB 6, lmB 7, lmB 8, lmB 9, lmB 10] ++ [lmB 11, lmB 12, lmB 13, lmB 14, lmB 15, lmB 16, lmB 17, lmB 18, lmB 19, lmB 20, lmB 21, lmB 22]) _ a0 R0.w0
    refine k0.piece (C := mkC tys lmG []) tysOK lmG_ok mixed (fn := lmFn) (res := [.bool]) (ts := lmTn) (bs := lmMn) (G := fun v => v = (some true, none) ∨ (EpIn a ∧ EpIn b ∧ MsgIn l ∧ l.length ≤ 40 ∧ ∃ z, CarL a b l 0 z (2, b, a, 0, 0, noMrl) [] ∧ v = (none, some ((l, outL a b l, outL a b l, ((outL a b l).length : Int), 0, ()), ((2, a, b, 0, 1, noMrl), (2, b, a, 0, 0, noMrl), z, ()))))) (by kernel_rfl) (by kernel_rfl) (lm_first hw.1 hw.2.1 hwl) ?_ ?_ ?_
    · intro y s' a' w' hy j1 j2 j3
      rcases hy with hy | ⟨_, _, _, _, _, _, hy⟩
      · exact fin _ _ s' a' w' y (Option.some.inj (Prod.mk.inj hy).1) j1 j2 j3
      · cases hy
    · intro v a1 w1 hz k1
      rcases hz with hz | ⟨ha, hb, hm, h40, z, hc, hz⟩
      · cases hz
      have hz' := Option.some.inj (Prod.mk.inj hz).2
      subst hz'
      have h8 : (outL a b l).length ≤ 8 := by rw [outL_len]; exact pieces_eight h40
      have k2 := k1.rows (l := [(15, 1015, 66, gItem)]) (L := { prom := [], keep := (lmT []).map (·.1), boxes := lmM.map (·.1), sum := fun _ => .stuck }) (s' := mkS (lmT []) lmM ((l, outL a b l, outL a b l, ((outL a b l).length : Int), 0, ()), ((2, a, b, 0, 1, noMrl), (2, b, a, 0, 0, noMrl), z, [], ()))) (by kernel_rfl)
      refine LTo.cons ?_
      rw [lm_11]
      refine CodeTo.block ?_
      refine CodeTo.loop (lmeI R0 (fun _ => none) a b l (2, a, b, 0, 1, noMrl)) (outL a b l).length ⟨0, _, z, [], by omega, by omega, by omega, hc, k2⟩ ?_
      rintro m a2 w2 ⟨i, y, z2, got, i1, i2, i3, i4, i5⟩
      refine lm_round ha hb h40 i1 i2 i4 i5 (fun hl y' z' got' a' w' c' k' => ⟨m - 1, by omega, i + 1, y', z', got', by omega, by omega, by omega, c', k'⟩) fun hl a' w' k' => ?_
      obtain ⟨q1, q2, q3⟩ := car_all h40 hm i4 (by omega)
      have k3 := k'.restr (L := { prom := [], keep := lmU.map (·.1), boxes := lmM.map (·.1), sum := fun _ => .stuck }) (s' := mkS lmU lmM ((l, outL a b l, ()), ((2, a, b, 0, 1, noMrl), y, z2, got, ()))) (by kernel_rfl)
      show LTo Tryz.prog b0 ([lmB 12, lmB 13, lmB 14, lmB 15, lmB 16, lmB 17, lmB 18, lmB 19, lmB 20, lmB 21, lmB 22] ++ []) _ a' w'
      refine k3.pieceL (τ := tys) (G := lmG) (Λ := [(4, m4D.spec), (6, m6D.spec)]) (c0 := bodyOf lmFn) tysOK lmG_ok mixed lm_nd (lp_cons m4_loop (lp_cons m6_loop lp_nil)) (fn := lmFn) (res := [.bool]) (ts := []) (bs := []) (F := fun v => v = (some true, none)) (fun x hx => ?_) (by kernel_rfl) (by kernel_rfl) (lm_last h40 q1 q2 q3) ?_ ?_ (fun h => by cases h)
      · simp only [List.mem_cons, List.not_mem_nil, or_false] at hx
        rcases hx with rfl | rfl | rfl | rfl | rfl | rfl | rfl | rfl | rfl | rfl | rfl <;> exact ⟨_, rfl⟩
      · intro y s' a'' w'' hy j1 j2 j3
        exact fin _ _ s' a'' w'' y (Option.some.inj (Prod.mk.inj hy).1) j1 j2 j3
      · intro v a'' w'' hv; cases hv
    · rintro (h | ⟨_, _, _, _, _, _, h⟩) <;> cases h
end Go.Ev.Z
