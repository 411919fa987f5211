/- The document's configurations read. -/
import Derived.Test.YtohodbfoeejbjaaDoorTextConfAll10

set_option linter.unusedVariables false
set_option linter.unusedSimpArgs false
namespace Go.Ev.D
open Go.Proofs
def kcutC : Ctr := { args := [.str], res := [.sl .str], pre := some (fun (x : List UInt8) => x.length ≤ 10000), fn := fun (x : List UInt8) => wordsF x }
def kcutD : LoopD where
  prom := [(3, 1003, 9, .str)]
  ts := [(0, .val .str), (3, .tip 1003), (4, .val (.int .i64)), (7, .val (.int .i64)), (8, .val (.int .i64))]
  bs := [(1003, .row 9 .str false)]
  pre := fun (x : KcS) => kcPre x
  out := fun (x : KcS) => out1 0 (runF kcStp (kcMu x + 1) x)
theorem kcut_round : (fun x : KcS => roundOf (mkC tys [] [(0, kcutD.spec)]) kcutD (loopB 0 (bodyOf (fnOf Tryd.prog 150))) x) =
  (fun x =>
    Tree.br (decide (x.1.2.2.2.1 < x.1.2.2.1))
      (Tree.need ((0 : Int) ≤ x.1.2.2.2.1 ∧ x.1.2.2.2.1 < (↑(List.length x.1.1) : Int))
        (Tree.need
          (((↑(UInt8.toNat (List.getD x.1.1 (Int.toNat x.1.2.2.2.1) (0 : UInt8))) : Int) == (32 : Int)) = true → (0 : Int) ≤ x.1.2.1 ∧ x.1.2.1 ≤ x.1.2.2.2.1 ∧ x.1.2.2.2.1 ≤ (↑(List.length x.1.1) : Int))
          (Tree.need (((↑(UInt8.toNat (List.getD x.1.1 (Int.toNat x.1.2.2.2.1) (0 : UInt8))) : Int) == (32 : Int)) = true → (List.length x.2.1 + (1 : Nat)) * (16 : Nat) ≤ (140737488355328 : Nat))
            (Tree.leaf
              (Ex.normal,
                some
                  ((x.1.1, bif (↑(UInt8.toNat (List.getD x.1.1 (Int.toNat x.1.2.2.2.1) (0 : UInt8))) : Int) == (32 : Int) then IntKind.wrap IntKind.i64 (x.1.2.2.2.1 + (1 : Int)) else x.1.2.1, x.1.2.2.1,
                      IntKind.wrap IntKind.i64 (x.1.2.2.2.1 + (1 : Int)), ()),
                    bif (↑(UInt8.toNat (List.getD x.1.1 (Int.toNat x.1.2.2.2.1) (0 : UInt8))) : Int) == (32 : Int) then x.2.1 ++ [List.drop (Int.toNat x.1.2.1) (List.take (Int.toNat x.1.2.2.2.1) x.1.1)]
                    else x.2.1,
                    ()))))))
      (Tree.leaf (Ex.exit (0 : Nat), some ((x.1.1, x.1.2.1, x.1.2.2.1, x.1.2.2.2.1, ()), x.2.1, ())))) := by kernel_rfl
theorem kcut_tree : (fun x : List UInt8 => evFn (mkC tys [] [(0, kcutD.spec)]) (fnOf Tryd.prog 150) (resL kcutC.args x) kcutC.res) =
  (fun x =>
    Tree.need (kcPre ((x, (0 : Int), (↑(List.length x) : Int), (0 : Int), PUnit.unit), [], PUnit.unit))
      (Tree.need
        ((0 : Int) ≤
            (runF kcStp (kcMu ((x, (0 : Int), (↑(List.length x) : Int), (0 : Int), PUnit.unit), [], PUnit.unit) + (1 : Nat))
                      ((x, (0 : Int), (↑(List.length x) : Int), (0 : Int), PUnit.unit), [], PUnit.unit)).2.1.2.1 ∧
          (runF kcStp (kcMu ((x, (0 : Int), (↑(List.length x) : Int), (0 : Int), PUnit.unit), [], PUnit.unit) + (1 : Nat))
                      ((x, (0 : Int), (↑(List.length x) : Int), (0 : Int), PUnit.unit), [], PUnit.unit)).2.1.2.1 ≤
            (↑(List.length
                  (runF kcStp (kcMu ((x, (0 : Int), (↑(List.length x) : Int), (0 : Int), PUnit.unit), [], PUnit.unit) + (1 : Nat))
                          ((x, (0 : Int), (↑(List.length x) : Int), (0 : Int), PUnit.unit), [], PUnit.unit)).2.1.1) :
              Int))
        (Tree.need
          ((List.length
                  (runF kcStp (kcMu ((x, (0 : Int), (↑(List.length x) : Int), (0 : Int), PUnit.unit), [], PUnit.unit) + (1 : Nat))
                          ((x, (0 : Int), (↑(List.length x) : Int), (0 : Int), PUnit.unit), [], PUnit.unit)).2.2.1 +
                (1 : Nat)) *
              (16 : Nat) ≤
            (140737488355328 : Nat))
          (Tree.leaf
            ((runF kcStp (kcMu ((x, (0 : Int), (↑(List.length x) : Int), (0 : Int), PUnit.unit), [], PUnit.unit) + (1 : Nat))
                      ((x, (0 : Int), (↑(List.length x) : Int), (0 : Int), PUnit.unit), [], PUnit.unit)).2.2.1 ++
              [List.drop
                  (Int.toNat
                    (runF kcStp (kcMu ((x, (0 : Int), (↑(List.length x) : Int), (0 : Int), PUnit.unit), [], PUnit.unit) + (1 : Nat))
                              ((x, (0 : Int), (↑(List.length x) : Int), (0 : Int), PUnit.unit), [], PUnit.unit)).2.1.2.1)
                  (runF kcStp (kcMu ((x, (0 : Int), (↑(List.length x) : Int), (0 : Int), PUnit.unit), [], PUnit.unit) + (1 : Nat))
                          ((x, (0 : Int), (↑(List.length x) : Int), (0 : Int), PUnit.unit), [], PUnit.unit)).2.1.1]))))) := by kernel_rfl
def numD : LoopD where
  prom := []
  ts := [(0, .val .str), (2, .val (.int .i64)), (3, .val (.int .i64)), (6, .val (.int .i64)), (7, .val (.int .i64))]
  bs := []
  pre := fun (x : PnS) => pnPre x
  out := fun (x : PnS) => out2 0 (runF pnStp (pnMu x + 1) x)
def rnumG : List (Nat × Ctr) := [(131, pcdC 19)]
def rnumC : Ctr := { args := [.str], res := [.int .i64], pre := none, fn := fun (x : List UInt8) => numP x }
theorem rnum_round : (fun x : PnS => roundOf (mkC tys rnumG [(0, numD.spec)]) numD (loopB 0 (bodyOf (fnOf Tryd.prog 151))) x) =
  (fun x =>
    Tree.br (decide (x.1.2.2.2.2.1 < x.1.2.2.2.1))
      (Tree.need ((0 : Int) ≤ x.1.2.2.2.2.1 ∧ x.1.2.2.2.2.1 < (↑(List.length x.1.1) : Int))
        (Tree.need
          ((decide ((↑(UInt8.toNat (List.getD x.1.1 (Int.toNat x.1.2.2.2.2.1) (0 : UInt8))) : Int) < (48 : Int)) == false && true) = true →
            (0 : Int) ≤ x.1.2.2.2.2.1 ∧ x.1.2.2.2.2.1 < (↑(List.length x.1.1) : Int))
          (Tree.br
            (bif
                bif decide ((↑(UInt8.toNat (List.getD x.1.1 (Int.toNat x.1.2.2.2.2.1) (0 : UInt8))) : Int) < (48 : Int)) then true
                else decide ((↑(UInt8.toNat (List.getD x.1.1 (Int.toNat x.1.2.2.2.2.1) (0 : UInt8))) : Int) > (57 : Int)) then
              true
            else decide (x.1.2.2.1 > (1073741824 : Int)))
            (Tree.leaf (Ex.ret, some ((x.1.1, (-1 : Int), x.1.2.2.1, x.1.2.2.2.1, x.1.2.2.2.2.1, ()), ())))
            (Tree.need ((0 : Int) ≤ x.1.2.2.2.2.1 ∧ x.1.2.2.2.2.1 < (↑(List.length x.1.1) : Int))
              (Tree.leaf
                (Ex.normal,
                  some
                    ((x.1.1, x.1.2.1,
                        IntKind.wrap IntKind.i64
                          (IntKind.wrap IntKind.i64 ((10 : Int) * x.1.2.2.1) +
                            IntKind.wrap IntKind.i64 (IntKind.wrap IntKind.u8 ((↑(UInt8.toNat (List.getD x.1.1 (Int.toNat x.1.2.2.2.2.1) (0 : UInt8))) : Int) - (48 : Int)))),
                        x.1.2.2.2.1, IntKind.wrap IntKind.i64 (x.1.2.2.2.2.1 + (1 : Int)), ()),
                      ())))))))
      (Tree.leaf (Ex.exit (0 : Nat), some ((x.1.1, x.1.2.1, x.1.2.2.1, x.1.2.2.2.1, x.1.2.2.2.2.1, ()), ())))) := by kernel_rfl
theorem rnum_tree : (fun x : List UInt8 => evFn (mkC tys rnumG [(0, numD.spec)]) (fnOf Tryd.prog 151) (resL rnumC.args x) rnumC.res) =
  (fun x =>
    Tree.need (pnPre ((x, (0 : Int), (0 : Int), (↑(List.length x) : Int), (0 : Int), PUnit.unit), PUnit.unit))
      (Tree.br
        (isRet
          (runF pnStp (pnMu ((x, (0 : Int), (0 : Int), (↑(List.length x) : Int), (0 : Int), PUnit.unit), PUnit.unit) + (1 : Nat))
              ((x, (0 : Int), (0 : Int), (↑(List.length x) : Int), (0 : Int), PUnit.unit), PUnit.unit)).1)
        (Tree.leaf
          (runF pnStp (pnMu ((x, (0 : Int), (0 : Int), (↑(List.length x) : Int), (0 : Int), PUnit.unit), PUnit.unit) + (1 : Nat))
                    ((x, (0 : Int), (0 : Int), (↑(List.length x) : Int), (0 : Int), PUnit.unit), PUnit.unit)).2.1.2.1)
        (Tree.need
          ((((runF pnStp (pnMu ((x, (0 : Int), (0 : Int), (↑(List.length x) : Int), (0 : Int), PUnit.unit), PUnit.unit) + (1 : Nat))
                            ((x, (0 : Int), (0 : Int), (↑(List.length x) : Int), (0 : Int), PUnit.unit), PUnit.unit)).2.1.1 ==
                    []) ==
                  false &&
                true) =
              true →
            (runF pnStp (pnMu ((x, (0 : Int), (0 : Int), (↑(List.length x) : Int), (0 : Int), PUnit.unit), PUnit.unit) + (1 : Nat))
                          ((x, (0 : Int), (0 : Int), (↑(List.length x) : Int), (0 : Int), PUnit.unit), PUnit.unit)).2.1.2.2.1 <
              (10000000000000000000 : Int))
          (Tree.br
            (bif
                (runF pnStp (pnMu ((x, (0 : Int), (0 : Int), (↑(List.length x) : Int), (0 : Int), PUnit.unit), PUnit.unit) + (1 : Nat))
                          ((x, (0 : Int), (0 : Int), (↑(List.length x) : Int), (0 : Int), PUnit.unit), PUnit.unit)).2.1.1 ==
                  [] then
              true
            else
              !natT
                    (Int.toNat
                      (runF pnStp (pnMu ((x, (0 : Int), (0 : Int), (↑(List.length x) : Int), (0 : Int), PUnit.unit), PUnit.unit) + (1 : Nat))
                                  ((x, (0 : Int), (0 : Int), (↑(List.length x) : Int), (0 : Int), PUnit.unit), PUnit.unit)).2.1.2.2.1) ==
                  (runF pnStp (pnMu ((x, (0 : Int), (0 : Int), (↑(List.length x) : Int), (0 : Int), PUnit.unit), PUnit.unit) + (1 : Nat))
                          ((x, (0 : Int), (0 : Int), (↑(List.length x) : Int), (0 : Int), PUnit.unit), PUnit.unit)).2.1.1)
            (Tree.leaf (-1 : Int))
            (Tree.leaf
              (runF pnStp (pnMu ((x, (0 : Int), (0 : Int), (↑(List.length x) : Int), (0 : Int), PUnit.unit), PUnit.unit) + (1 : Nat))
                          ((x, (0 : Int), (0 : Int), (↑(List.length x) : Int), (0 : Int), PUnit.unit), PUnit.unit)).2.1.2.2.1))))) := by kernel_rfl
def rnodeG : List (Nat × Ctr) := [(122, nparseC), (123, rcountC), (105, rlistC)]
def rnodeC : Ctr := { args := [.str], res := [.int .i64], pre := none, fn := fun (x : List UInt8) => nodeR x }
theorem rnode_tree : (fun x : List UInt8 => evFn (mkC tys rnodeG []) (fnOf Tryd.prog 152) (resL rnodeC.args x) rnodeC.res) =
  (fun x =>
    Tree.br (bif (nparseF x).2 != (0 : Int) then true else (↑(List.length (elemsF (nparseF x).1 (16 : Nat))) : Int) != (1 : Int)) (Tree.leaf (-1 : Int))
      (Tree.need ((0 : Int) ≤ (0 : Int) ∧ (0 : Int) < (↑(List.length (elemsF (nparseF x).1 (16 : Nat))) : Int)) (Tree.leaf (List.getD (elemsF (nparseF x).1 (16 : Nat)) (0 : Nat) (0 : Int))))) := by kernel_rfl
def rlineG : List (Nat × Ctr) := [(150, kcutC), (151, rnumC), (152, rnodeC), (43, rcsetC)]
def lnD : LoopD where
  prom := []
  ts := [(6, .val (.sl .str)), (7, .ptr 7 (.arr 4 (.int .i64))), (8, .val (.int .i64))]
  bs := [(7, .var (.arr 4 (.int .i64)))]
  pre := fun (x : LnS) => lnPre x
  out := fun (x : LnS) => out1 0 (runF lnStp (lnMu x + 1) x)
def rlineC2 : Ctr := { args := [gConf, .str], res := [gConf, .bool], pre := some linePre, fn := fun (x : DConf × List UInt8) => lineR x.1 (wordsF x.2) }
theorem ln_round : (fun x : LnS => roundOf (mkC tys rlineG [(0, lnD.spec)]) lnD (loopB 0 (bodyOf (fnOf Tryd.prog 134))) x) =
  (fun x =>
    Tree.br (bif decide (x.1.2.1 < (↑(List.length x.1.1) : Int)) then decide (x.1.2.1 ≤ (4 : Int)) else false)
      (Tree.need ((0 : Int) ≤ x.1.2.1 ∧ x.1.2.1 < (↑(List.length x.1.1) : Int))
        (Tree.need ((0 : Int) ≤ IntKind.wrap IntKind.i64 (x.1.2.1 - (1 : Int)) ∧ IntKind.wrap IntKind.i64 (x.1.2.1 - (1 : Int)) < (4 : Int))
          (Tree.leaf
            (Ex.normal,
              some
                ((x.1.1, IntKind.wrap IntKind.i64 (x.1.2.1 + (1 : Int)), ()), List.set x.2.1 (Int.toNat (IntKind.wrap IntKind.i64 (x.1.2.1 - (1 : Int)))) (numP (List.getD x.1.1 (Int.toNat x.1.2.1) [])),
                  ())))))
      (Tree.leaf (Ex.exit (0 : Nat), some ((x.1.1, x.1.2.1, ()), x.2.1, ())))) := by kernel_rfl
theorem rline2_tree : (fun x : DConf × List UInt8 => evFn (mkC tys rlineG [(0, lnD.spec)]) (fnOf Tryd.prog 134) (resL rlineC2.args x) rlineC2.res) =
  (fun x =>
    Tree.need (List.length x.2 ≤ (10000 : Nat))
      (Tree.need (lnPre ((wordsF x.2, (1 : Int), PUnit.unit), List.replicate (4 : Nat) (0 : Int), PUnit.unit))
        (Tree.need
          ((0 : Int) ≤ (0 : Int) ∧
            (0 : Int) <
              (↑(List.length
                    (runF lnStp (lnMu ((wordsF x.2, (1 : Int), PUnit.unit), List.replicate (4 : Nat) (0 : Int), PUnit.unit) + (1 : Nat))
                            ((wordsF x.2, (1 : Int), PUnit.unit), List.replicate (4 : Nat) (0 : Int), PUnit.unit)).2.1.1) :
                Int))
          (Tree.br
            (bif
                List.getD
                    (runF lnStp (lnMu ((wordsF x.2, (1 : Int), PUnit.unit), List.replicate (4 : Nat) (0 : Int), PUnit.unit) + (1 : Nat))
                            ((wordsF x.2, (1 : Int), PUnit.unit), List.replicate (4 : Nat) (0 : Int), PUnit.unit)).2.1.1
                    (0 : Nat) [] ==
                  [(110 : UInt8), (111 : UInt8), (100 : UInt8), (101 : UInt8)] then
              (↑(List.length
                      (runF lnStp (lnMu ((wordsF x.2, (1 : Int), PUnit.unit), List.replicate (4 : Nat) (0 : Int), PUnit.unit) + (1 : Nat))
                              ((wordsF x.2, (1 : Int), PUnit.unit), List.replicate (4 : Nat) (0 : Int), PUnit.unit)).2.1.1) :
                  Int) ==
                (2 : Int)
            else false)
            (Tree.need
              ((0 : Int) ≤ (1 : Int) ∧
                (1 : Int) <
                  (↑(List.length
                        (runF lnStp (lnMu ((wordsF x.2, (1 : Int), PUnit.unit), List.replicate (4 : Nat) (0 : Int), PUnit.unit) + (1 : Nat))
                                ((wordsF x.2, (1 : Int), PUnit.unit), List.replicate (4 : Nat) (0 : Int), PUnit.unit)).2.1.1) :
                    Int))
              (Tree.leaf
                ((nodeR
                      (List.getD
                        (runF lnStp (lnMu ((wordsF x.2, (1 : Int), PUnit.unit), List.replicate (4 : Nat) (0 : Int), PUnit.unit) + (1 : Nat))
                                ((wordsF x.2, (1 : Int), PUnit.unit), List.replicate (4 : Nat) (0 : Int), PUnit.unit)).2.1.1
                        (1 : Nat) []),
                    x.1.2),
                  decide
                    (nodeR
                        (List.getD
                          (runF lnStp (lnMu ((wordsF x.2, (1 : Int), PUnit.unit), List.replicate (4 : Nat) (0 : Int), PUnit.unit) + (1 : Nat))
                                  ((wordsF x.2, (1 : Int), PUnit.unit), List.replicate (4 : Nat) (0 : Int), PUnit.unit)).2.1.1
                          (1 : Nat) []) ≥
                      (0 : Int)))))
            (Tree.need
              ((0 : Int) ≤ (0 : Int) ∧
                (0 : Int) <
                  (↑(List.length
                        (runF lnStp (lnMu ((wordsF x.2, (1 : Int), PUnit.unit), List.replicate (4 : Nat) (0 : Int), PUnit.unit) + (1 : Nat))
                                ((wordsF x.2, (1 : Int), PUnit.unit), List.replicate (4 : Nat) (0 : Int), PUnit.unit)).2.1.1) :
                    Int))
              (Tree.br
                (bif
                    List.getD
                        (runF lnStp (lnMu ((wordsF x.2, (1 : Int), PUnit.unit), List.replicate (4 : Nat) (0 : Int), PUnit.unit) + (1 : Nat))
                                ((wordsF x.2, (1 : Int), PUnit.unit), List.replicate (4 : Nat) (0 : Int), PUnit.unit)).2.1.1
                        (0 : Nat) [] ==
                      [(114 : UInt8), (117 : UInt8), (108 : UInt8), (101 : UInt8), (115 : UInt8)] then
                  (↑(List.length
                          (runF lnStp (lnMu ((wordsF x.2, (1 : Int), PUnit.unit), List.replicate (4 : Nat) (0 : Int), PUnit.unit) + (1 : Nat))
                                  ((wordsF x.2, (1 : Int), PUnit.unit), List.replicate (4 : Nat) (0 : Int), PUnit.unit)).2.1.1) :
                      Int) ==
                    (5 : Int)
                else false)
                (Tree.leaf
                  ((x.1.1,
                      (List.getD
                          (runF lnStp (lnMu ((wordsF x.2, (1 : Int), PUnit.unit), List.replicate (4 : Nat) (0 : Int), PUnit.unit) + (1 : Nat))
                                  ((wordsF x.2, (1 : Int), PUnit.unit), List.replicate (4 : Nat) (0 : Int), PUnit.unit)).2.2.1
                          (0 : Nat) (0 : Int),
                        List.getD
                          (runF lnStp (lnMu ((wordsF x.2, (1 : Int), PUnit.unit), List.replicate (4 : Nat) (0 : Int), PUnit.unit) + (1 : Nat))
                                  ((wordsF x.2, (1 : Int), PUnit.unit), List.replicate (4 : Nat) (0 : Int), PUnit.unit)).2.2.1
                          (1 : Nat) (0 : Int),
                        List.getD
                          (runF lnStp (lnMu ((wordsF x.2, (1 : Int), PUnit.unit), List.replicate (4 : Nat) (0 : Int), PUnit.unit) + (1 : Nat))
                                  ((wordsF x.2, (1 : Int), PUnit.unit), List.replicate (4 : Nat) (0 : Int), PUnit.unit)).2.2.1
                          (2 : Nat) (0 : Int),
                        List.getD
                          (runF lnStp (lnMu ((wordsF x.2, (1 : Int), PUnit.unit), List.replicate (4 : Nat) (0 : Int), PUnit.unit) + (1 : Nat))
                                  ((wordsF x.2, (1 : Int), PUnit.unit), List.replicate (4 : Nat) (0 : Int), PUnit.unit)).2.2.1
                          (3 : Nat) (0 : Int)),
                      x.1.2.2),
                    decide
                      ((if
                            List.getD
                                (runF lnStp (lnMu ((wordsF x.2, (1 : Int), PUnit.unit), List.replicate (4 : Nat) (0 : Int), PUnit.unit) + (1 : Nat))
                                        ((wordsF x.2, (1 : Int), PUnit.unit), List.replicate (4 : Nat) (0 : Int), PUnit.unit)).2.2.1
                                (3 : Nat) (0 : Int) <
                              if
                                  List.getD
                                      (runF lnStp (lnMu ((wordsF x.2, (1 : Int), PUnit.unit), List.replicate (4 : Nat) (0 : Int), PUnit.unit) + (1 : Nat))
                                              ((wordsF x.2, (1 : Int), PUnit.unit), List.replicate (4 : Nat) (0 : Int), PUnit.unit)).2.2.1
                                      (2 : Nat) (0 : Int) <
                                    if
                                        List.getD
                                            (runF lnStp (lnMu ((wordsF x.2, (1 : Int), PUnit.unit), List.replicate (4 : Nat) (0 : Int), PUnit.unit) + (1 : Nat))
                                                    ((wordsF x.2, (1 : Int), PUnit.unit), List.replicate (4 : Nat) (0 : Int), PUnit.unit)).2.2.1
                                            (1 : Nat) (0 : Int) <
                                          List.getD
                                            (runF lnStp (lnMu ((wordsF x.2, (1 : Int), PUnit.unit), List.replicate (4 : Nat) (0 : Int), PUnit.unit) + (1 : Nat))
                                                    ((wordsF x.2, (1 : Int), PUnit.unit), List.replicate (4 : Nat) (0 : Int), PUnit.unit)).2.2.1
                                            (0 : Nat) (0 : Int) then
                                      List.getD
                                        (runF lnStp (lnMu ((wordsF x.2, (1 : Int), PUnit.unit), List.replicate (4 : Nat) (0 : Int), PUnit.unit) + (1 : Nat))
                                                ((wordsF x.2, (1 : Int), PUnit.unit), List.replicate (4 : Nat) (0 : Int), PUnit.unit)).2.2.1
                                        (1 : Nat) (0 : Int)
                                    else
                                      List.getD
                                        (runF lnStp (lnMu ((wordsF x.2, (1 : Int), PUnit.unit), List.replicate (4 : Nat) (0 : Int), PUnit.unit) + (1 : Nat))
                                                ((wordsF x.2, (1 : Int), PUnit.unit), List.replicate (4 : Nat) (0 : Int), PUnit.unit)).2.2.1
                                        (0 : Nat) (0 : Int) then
                                List.getD
                                  (runF lnStp (lnMu ((wordsF x.2, (1 : Int), PUnit.unit), List.replicate (4 : Nat) (0 : Int), PUnit.unit) + (1 : Nat))
                                          ((wordsF x.2, (1 : Int), PUnit.unit), List.replicate (4 : Nat) (0 : Int), PUnit.unit)).2.2.1
                                  (2 : Nat) (0 : Int)
                              else
                                if
                                    List.getD
                                        (runF lnStp (lnMu ((wordsF x.2, (1 : Int), PUnit.unit), List.replicate (4 : Nat) (0 : Int), PUnit.unit) + (1 : Nat))
                                                ((wordsF x.2, (1 : Int), PUnit.unit), List.replicate (4 : Nat) (0 : Int), PUnit.unit)).2.2.1
                                        (1 : Nat) (0 : Int) <
                                      List.getD
                                        (runF lnStp (lnMu ((wordsF x.2, (1 : Int), PUnit.unit), List.replicate (4 : Nat) (0 : Int), PUnit.unit) + (1 : Nat))
                                                ((wordsF x.2, (1 : Int), PUnit.unit), List.replicate (4 : Nat) (0 : Int), PUnit.unit)).2.2.1
                                        (0 : Nat) (0 : Int) then
                                  List.getD
                                    (runF lnStp (lnMu ((wordsF x.2, (1 : Int), PUnit.unit), List.replicate (4 : Nat) (0 : Int), PUnit.unit) + (1 : Nat))
                                            ((wordsF x.2, (1 : Int), PUnit.unit), List.replicate (4 : Nat) (0 : Int), PUnit.unit)).2.2.1
                                    (1 : Nat) (0 : Int)
                                else
                                  List.getD
                                    (runF lnStp (lnMu ((wordsF x.2, (1 : Int), PUnit.unit), List.replicate (4 : Nat) (0 : Int), PUnit.unit) + (1 : Nat))
                                            ((wordsF x.2, (1 : Int), PUnit.unit), List.replicate (4 : Nat) (0 : Int), PUnit.unit)).2.2.1
                                    (0 : Nat) (0 : Int) then
                          List.getD
                            (runF lnStp (lnMu ((wordsF x.2, (1 : Int), PUnit.unit), List.replicate (4 : Nat) (0 : Int), PUnit.unit) + (1 : Nat))
                                    ((wordsF x.2, (1 : Int), PUnit.unit), List.replicate (4 : Nat) (0 : Int), PUnit.unit)).2.2.1
                            (3 : Nat) (0 : Int)
                        else
                          if
                              List.getD
                                  (runF lnStp (lnMu ((wordsF x.2, (1 : Int), PUnit.unit), List.replicate (4 : Nat) (0 : Int), PUnit.unit) + (1 : Nat))
                                          ((wordsF x.2, (1 : Int), PUnit.unit), List.replicate (4 : Nat) (0 : Int), PUnit.unit)).2.2.1
                                  (2 : Nat) (0 : Int) <
                                if
                                    List.getD
                                        (runF lnStp (lnMu ((wordsF x.2, (1 : Int), PUnit.unit), List.replicate (4 : Nat) (0 : Int), PUnit.unit) + (1 : Nat))
                                                ((wordsF x.2, (1 : Int), PUnit.unit), List.replicate (4 : Nat) (0 : Int), PUnit.unit)).2.2.1
                                        (1 : Nat) (0 : Int) <
                                      List.getD
                                        (runF lnStp (lnMu ((wordsF x.2, (1 : Int), PUnit.unit), List.replicate (4 : Nat) (0 : Int), PUnit.unit) + (1 : Nat))
                                                ((wordsF x.2, (1 : Int), PUnit.unit), List.replicate (4 : Nat) (0 : Int), PUnit.unit)).2.2.1
                                        (0 : Nat) (0 : Int) then
                                  List.getD
                                    (runF lnStp (lnMu ((wordsF x.2, (1 : Int), PUnit.unit), List.replicate (4 : Nat) (0 : Int), PUnit.unit) + (1 : Nat))
                                            ((wordsF x.2, (1 : Int), PUnit.unit), List.replicate (4 : Nat) (0 : Int), PUnit.unit)).2.2.1
                                    (1 : Nat) (0 : Int)
                                else
                                  List.getD
                                    (runF lnStp (lnMu ((wordsF x.2, (1 : Int), PUnit.unit), List.replicate (4 : Nat) (0 : Int), PUnit.unit) + (1 : Nat))
                                            ((wordsF x.2, (1 : Int), PUnit.unit), List.replicate (4 : Nat) (0 : Int), PUnit.unit)).2.2.1
                                    (0 : Nat) (0 : Int) then
                            List.getD
                              (runF lnStp (lnMu ((wordsF x.2, (1 : Int), PUnit.unit), List.replicate (4 : Nat) (0 : Int), PUnit.unit) + (1 : Nat))
                                      ((wordsF x.2, (1 : Int), PUnit.unit), List.replicate (4 : Nat) (0 : Int), PUnit.unit)).2.2.1
                              (2 : Nat) (0 : Int)
                          else
                            if
                                List.getD
                                    (runF lnStp (lnMu ((wordsF x.2, (1 : Int), PUnit.unit), List.replicate (4 : Nat) (0 : Int), PUnit.unit) + (1 : Nat))
                                            ((wordsF x.2, (1 : Int), PUnit.unit), List.replicate (4 : Nat) (0 : Int), PUnit.unit)).2.2.1
                                    (1 : Nat) (0 : Int) <
                                  List.getD
                                    (runF lnStp (lnMu ((wordsF x.2, (1 : Int), PUnit.unit), List.replicate (4 : Nat) (0 : Int), PUnit.unit) + (1 : Nat))
                                            ((wordsF x.2, (1 : Int), PUnit.unit), List.replicate (4 : Nat) (0 : Int), PUnit.unit)).2.2.1
                                    (0 : Nat) (0 : Int) then
                              List.getD
                                (runF lnStp (lnMu ((wordsF x.2, (1 : Int), PUnit.unit), List.replicate (4 : Nat) (0 : Int), PUnit.unit) + (1 : Nat))
                                        ((wordsF x.2, (1 : Int), PUnit.unit), List.replicate (4 : Nat) (0 : Int), PUnit.unit)).2.2.1
                                (1 : Nat) (0 : Int)
                            else
                              List.getD
                                (runF lnStp (lnMu ((wordsF x.2, (1 : Int), PUnit.unit), List.replicate (4 : Nat) (0 : Int), PUnit.unit) + (1 : Nat))
                                        ((wordsF x.2, (1 : Int), PUnit.unit), List.replicate (4 : Nat) (0 : Int), PUnit.unit)).2.2.1
                                (0 : Nat) (0 : Int)) ≥
                        (0 : Int))))
                (Tree.need
                  ((0 : Int) ≤ (0 : Int) ∧
                    (0 : Int) <
                      (↑(List.length
                            (runF lnStp (lnMu ((wordsF x.2, (1 : Int), PUnit.unit), List.replicate (4 : Nat) (0 : Int), PUnit.unit) + (1 : Nat))
                                    ((wordsF x.2, (1 : Int), PUnit.unit), List.replicate (4 : Nat) (0 : Int), PUnit.unit)).2.1.1) :
                        Int))
                  (Tree.br
                    (bif
                        bif
                            bif
                                List.getD
                                    (runF lnStp (lnMu ((wordsF x.2, (1 : Int), PUnit.unit), List.replicate (4 : Nat) (0 : Int), PUnit.unit) + (1 : Nat))
                                            ((wordsF x.2, (1 : Int), PUnit.unit), List.replicate (4 : Nat) (0 : Int), PUnit.unit)).2.1.1
                                    (0 : Nat) [] ==
                                  [(108 : UInt8), (105 : UInt8), (110 : UInt8), (107 : UInt8)] then
                              (↑(List.length
                                      (runF lnStp (lnMu ((wordsF x.2, (1 : Int), PUnit.unit), List.replicate (4 : Nat) (0 : Int), PUnit.unit) + (1 : Nat))
                                              ((wordsF x.2, (1 : Int), PUnit.unit), List.replicate (4 : Nat) (0 : Int), PUnit.unit)).2.1.1) :
                                  Int) ==
                                (3 : Int)
                            else false then
                          decide
                            (List.getD
                                (runF lnStp (lnMu ((wordsF x.2, (1 : Int), PUnit.unit), List.replicate (4 : Nat) (0 : Int), PUnit.unit) + (1 : Nat))
                                        ((wordsF x.2, (1 : Int), PUnit.unit), List.replicate (4 : Nat) (0 : Int), PUnit.unit)).2.2.1
                                (1 : Nat) (0 : Int) ≥
                              (0 : Int))
                        else false then
                      decide
                        (List.getD
                            (runF lnStp (lnMu ((wordsF x.2, (1 : Int), PUnit.unit), List.replicate (4 : Nat) (0 : Int), PUnit.unit) + (1 : Nat))
                                    ((wordsF x.2, (1 : Int), PUnit.unit), List.replicate (4 : Nat) (0 : Int), PUnit.unit)).2.2.1
                            (1 : Nat) (0 : Int) ≤
                          (65536 : Int))
                    else false)
                    (Tree.need
                      ((0 : Int) ≤ (1 : Int) ∧
                        (1 : Int) <
                          (↑(List.length
                                (runF lnStp (lnMu ((wordsF x.2, (1 : Int), PUnit.unit), List.replicate (4 : Nat) (0 : Int), PUnit.unit) + (1 : Nat))
                                        ((wordsF x.2, (1 : Int), PUnit.unit), List.replicate (4 : Nat) (0 : Int), PUnit.unit)).2.1.1) :
                            Int))
                      (Tree.leaf
                        ((x.1.1, x.1.2.1,
                            (csetF x.1.2.2
                                (nodeR
                                  (List.getD
                                    (runF lnStp (lnMu ((wordsF x.2, (1 : Int), PUnit.unit), List.replicate (4 : Nat) (0 : Int), PUnit.unit) + (1 : Nat))
                                            ((wordsF x.2, (1 : Int), PUnit.unit), List.replicate (4 : Nat) (0 : Int), PUnit.unit)).2.1.1
                                    (1 : Nat) []))
                                (IntKind.wrap IntKind.u32
                                  (List.getD
                                    (runF lnStp (lnMu ((wordsF x.2, (1 : Int), PUnit.unit), List.replicate (4 : Nat) (0 : Int), PUnit.unit) + (1 : Nat))
                                            ((wordsF x.2, (1 : Int), PUnit.unit), List.replicate (4 : Nat) (0 : Int), PUnit.unit)).2.2.1
                                    (1 : Nat) (0 : Int)))).1),
                          (csetF x.1.2.2
                                (nodeR
                                  (List.getD
                                    (runF lnStp (lnMu ((wordsF x.2, (1 : Int), PUnit.unit), List.replicate (4 : Nat) (0 : Int), PUnit.unit) + (1 : Nat))
                                            ((wordsF x.2, (1 : Int), PUnit.unit), List.replicate (4 : Nat) (0 : Int), PUnit.unit)).2.1.1
                                    (1 : Nat) []))
                                (IntKind.wrap IntKind.u32
                                  (List.getD
                                    (runF lnStp (lnMu ((wordsF x.2, (1 : Int), PUnit.unit), List.replicate (4 : Nat) (0 : Int), PUnit.unit) + (1 : Nat))
                                            ((wordsF x.2, (1 : Int), PUnit.unit), List.replicate (4 : Nat) (0 : Int), PUnit.unit)).2.2.1
                                    (1 : Nat) (0 : Int)))).2 ==
                            (0 : Int))))
                    (Tree.leaf (x.1, false)))))))))) := by kernel_rfl
theorem kcut_loop : LoopOK (mkC tys [] [(0, kcutD.spec)]) kcutD.spec (loopB 0 (bodyOf (fnOf Tryd.prog 150))) :=
  loopF1_ok (id := 0) (D := kcutD) (fun x => congrFun kcut_round x) kcStp kcMu (fun _ => rfl) kcStp_ends fun (x : KcS) hp => by
    refine ⟨?_, fun hn => kc_go hp hn⟩
    obtain ⟨⟨s, a, len, i, ⟨⟩⟩, out, ⟨⟩⟩ := x
    obtain ⟨h1, h2, h3, h4, h5, h6⟩ := hp
    simp only at h1 h2 h3 h4 h5 h6
    have hb : kcB ((s, a, len, i, PUnit.unit), out, PUnit.unit) = ((s.getD i.toNat 0).toNat : Int) := rfl
    simp only [Tree.holds, kcStp, hb]
    generalize (((s.getD i.toNat 0).toNat : Int) == 32) = bb
    refine ⟨fun h => ?_, fun h => by rw [h]; rfl⟩
    have hi := of_decide_eq_true h
    refine ⟨⟨by omega, by omega⟩, fun _ => ⟨h1, h2, by omega⟩, fun _ => by omega, ?_⟩
    rw [h, i64_id (n := i + 1) (by omega) (by omega)]
    cases bb <;> rfl
theorem kcut_ok : CtrOK Tryd.prog 150 kcutC :=
  fun_ok (G := []) (Λ := [(0, kcutD.spec)]) tysOK ctrs_nil mixed (by kernel_rfl) (by kernel_rfl) (by kernel_rfl) (by kernel_rfl) (lp_cons kcut_loop lp_nil) fun (x : List UInt8) hw hp => by
    have hx : x.length ≤ 10000 := hp (fun (x : List UInt8) => x.length ≤ 10000) rfl
    rw [congrFun kcut_tree x]
    have e : kcutC.fn x = wordsF x := rfl
    rw [e]
    obtain ⟨hp2, key⟩ := kc_all hx
    unfold kcSt at key
    generalize runF kcStp _ _ = q at key ⊢
    obtain ⟨k1, k2, k3, k4, k5, k6⟩ := key
    simp only [Tree.holds]
    refine ⟨hp2, ⟨k3, by rw [k2]; exact k4⟩, by omega, ?_⟩
    rw [k2]
    exact k6
theorem rnum_loop : LoopOK (mkC tys rnumG [(0, numD.spec)]) numD.spec (loopB 0 (bodyOf (fnOf Tryd.prog 151))) :=
  loopF2_ok (id := 0) (D := numD) (fun x => congrFun rnum_round x) pnStp pnMu (fun _ => rfl) pnStp_ends fun (x : PnS) hp => by
    refine ⟨?_, fun hn => pn_go hp hn⟩
    obtain ⟨⟨s, r, n, len, i, ⟨⟩⟩, ⟨⟩⟩ := x
    obtain ⟨h1, h2, h3, h4, h5, h6⟩ := hp
    simp only at h1 h2 h3 h4 h5 h6
    have hb : pnB ((s, r, n, len, i, PUnit.unit), PUnit.unit) = ((s.getD i.toNat 0).toNat : Int) := rfl
    have hlt := (s.getD i.toNat 0).toNat_lt
    simp only [Tree.holds, pnStp, hb]
    generalize (s.getD i.toNat 0).toNat = c at hlt ⊢
    refine ⟨fun h => ?_, fun h => by rw [h]; rfl⟩
    have hi := of_decide_eq_true h
    refine ⟨⟨h1, by omega⟩, fun _ => ⟨h1, by omega⟩, fun g => ?_, fun g => ⟨⟨h1, by omega⟩, ?_⟩⟩
    · have g' : badD 1073741824 (c : Int) n = true := g
      rw [h, g']; rfl
    · have g' : badD 1073741824 (c : Int) n = false := g
      have := badD_no g'
      rw [h, g', wrap_u8, show ((c : Int) - 48) % 256 = (c : Int) - 48 by omega, Int.mul_comm 10 n, i64_id (n := (c : Int) - 48) (by omega) (by omega), i64_id (n := n * 10) (by omega) (by omega), i64_id (n := n * 10 + ((c : Int) - 48)) (by omega) (by omega), i64_id (n := i + 1) (by omega) (by omega)]
      rfl
theorem rnum_ok : CtrOK Tryd.prog 151 rnumC :=
  fun_ok (G := rnumG) (Λ := [(0, numD.spec)]) tysOK (ctrs_cons (pcd_ok 19) ctrs_nil) mixed (by kernel_rfl) (by kernel_rfl) (by kernel_rfl) (by kernel_rfl) (lp_cons rnum_loop lp_nil) fun (x : List UInt8) hw hp => by
    have hx : x.length ≤ 4611686018427387904 := hw
    rw [congrFun rnum_tree x]
    have e : rnumC.fn x = numP x := rfl
    rw [e]
    obtain ⟨hp2, key⟩ := pn_all hx
    unfold pnSt at key
    generalize runF pnStp _ _ = q at key ⊢
    simp only [Tree.holds]
    cases hg : numGo 1073741824 x 0 with
    | none =>
      rw [hg] at key
      obtain ⟨k1, k2⟩ := key
      refine ⟨hp2, fun _ => by rw [k2, numP_none hg], fun h => ?_⟩
      rw [k1] at h; cases h
    | some n =>
      rw [hg] at key
      obtain ⟨k1, k2, k3⟩ := key
      have hne := numP_end hg
      refine ⟨hp2, fun h => ?_, fun _ => ⟨fun _ => by rw [k2]; exact numP_low hg, fun h => ?_, fun h => ?_⟩⟩
      · rw [k1] at h; cases h
      · rw [k2, k3] at h
        rw [h] at hne
        exact hne
      · rw [k2, k3] at h
        rw [h] at hne
        rw [k2]
        exact hne
theorem rnode_ok : CtrOK Tryd.prog 152 rnodeC :=
  fun_ok (G := rnodeG) (Λ := []) tysOK (ctrs_cons rnparse_ok (ctrs_cons rcount_ok (ctrs_cons rlist_ok ctrs_nil))) mixed (by kernel_rfl) (by kernel_rfl) (by kernel_rfl) (by kernel_rfl) lp_nil fun (x : List UInt8) hw hp => by
    rw [congrFun rnode_tree x]
    have e : rnodeC.fn x = nodeR x := rfl
    rw [e]
    simp only [Tree.holds]
    unfold nodeR
    refine ⟨fun h => ?_, fun h => ?_⟩
    · have h' : nodeBad x = true := h
      rw [h']; rfl
    · have h' : nodeBad x = false := h
      obtain ⟨a, b⟩ := node_first h'
      rw [h']
      exact ⟨⟨by omega, by omega⟩, b⟩
theorem ln_loop : LoopOK (mkC tys rlineG [(0, lnD.spec)]) lnD.spec (loopB 0 (bodyOf (fnOf Tryd.prog 134))) :=
  loopF1_ok (id := 0) (D := lnD) (fun x => congrFun ln_round x) lnStp lnMu (fun _ => rfl) lnStp_ends fun (x : LnS) hp => by
    refine ⟨?_, fun hn => ln_go hp hn⟩
    obtain ⟨⟨l, i, ⟨⟩⟩, m, ⟨⟩⟩ := x
    obtain ⟨h1, h2, h3, h4⟩ := hp
    simp only at h1 h2 h3 h4
    simp only [Tree.holds, lnStp]
    refine ⟨fun h => ?_, fun h => by rw [h]; rfl⟩
    obtain ⟨c1, c2⟩ := ln_both h
    have c1' := of_decide_eq_true c1
    have c2' := of_decide_eq_true c2
    rw [h, i64_id (n := i - 1) (by omega) (by omega), i64_id (n := i + 1) (by omega) (by omega)]
    exact ⟨⟨by omega, by omega⟩, ⟨by omega, by omega⟩, rfl⟩
theorem rline2_ok : CtrOK Tryd.prog 134 rlineC2 :=
  fun_ok (G := rlineG) (Λ := [(0, lnD.spec)]) tysOK (ctrs_cons kcut_ok (ctrs_cons rnum_ok (ctrs_cons rnode_ok (ctrs_cons rcset_ok ctrs_nil)))) mixed (by kernel_rfl) (by kernel_rfl) (by kernel_rfl) (by kernel_rfl) (lp_cons ln_loop lp_nil) fun (x : DConf × List UInt8) hw hp => by
    have hlen : x.2.length ≤ 10000 := hp linePre rfl
    rw [congrFun rline2_tree x]
    have e : rlineC2.fn x = lineR x.1 (wordsF x.2) := rfl
    rw [e]
    obtain ⟨hp2, key⟩ := ln_all (wordsF x.2)
    have hpos := words_pos x.2
    unfold lnSt at key
    have hrep : List.replicate (4 : Nat) (0 : Int) = [0, 0, 0, 0] := rfl
    rw [hrep]
    generalize runF lnStp _ _ = q at key ⊢
    obtain ⟨k1, k2, i, g1, g2, g3, g4, g5⟩ := key
    simp only [Tree.holds]
    rw [k2, g5]
    refine ⟨hlen, hp2, ⟨by omega, by omega⟩, fun hA => ?_, fun hA => ⟨⟨by omega, by omega⟩, fun hB => ?_, fun hB => ⟨⟨by omega, by omega⟩, fun hC => ?_, fun hC => ?_⟩⟩⟩
    · have hA' : isLine (wordsF x.2) wNode 2 = true := hA
      have hl := isLine_len hA'
      unfold lineR
      rw [hA']
      exact ⟨⟨by omega, by omega⟩, rfl⟩
    · have hA' : isLine (wordsF x.2) wNode 2 = false := hA
      have hB' : isLine (wordsF x.2) wRules 5 = true := hB
      have hl := isLine_len hB'
      rw [ns_rules hl g1 g2 g4]
      unfold lineR
      rw [hA', hB', (lb_rules hA' hB').1]
      refine Prod.ext rfl ?_
      exact min4 _ _ _ _
    · have hA' : isLine (wordsF x.2) wNode 2 = false := hA
      have hB' : isLine (wordsF x.2) wRules 5 = false := hB
      have hC0 := (ln_both (ln_both hC).1).1
      have hC' : isLine (wordsF x.2) wLink 3 = true := hC0
      have hl := isLine_len hC'
      have hns := ns_link hl g1 g3 g4
      rw [hns] at hC ⊢
      have c1 := (ln_both (ln_both hC).1).2
      have c2 := (ln_both hC).2
      refine ⟨⟨by omega, by omega⟩, ?_⟩
      unfold lineR
      rw [hA', hB', hC', c1, c2]
      rfl
    · have hA' : isLine (wordsF x.2) wNode 2 = false := hA
      have hB' : isLine (wordsF x.2) wRules 5 = false := hB
      cases hC' : isLine (wordsF x.2) wLink 3 with
      | false =>
        unfold lineR
        rw [hA', hB', hC']
        rfl
      | true =>
        have hns := ns_link (isLine_len hC') g1 g3 g4
        have hC2 : (bif (bif isLine (wordsF x.2) wLink 3 then decide ((nsN (wordsF x.2) i).getD 1 0 ≥ 0) else false) then decide ((nsN (wordsF x.2) i).getD 1 0 ≤ 65536) else false) = false := hC
        rw [hns] at hC2
        unfold lineR
        rw [hA', hB', hC2]
        rfl
end Go.Ev.D
/- The document's configuration parsed. -/
set_option linter.unusedVariables false
set_option linter.unusedSimpArgs false
namespace Go.Ev.D
open Go.Proofs
def rpfG : List (Nat × Ctr) := [(134, rlineC2), (74, printC)]
def rpfD : LoopD where
  prom := []
  ts := [(0, .val .str), (2, .ptr 2 gConf), (3, .val (.int .i64)), (4, .val (.int .i64)), (5, .ptr 5 gConf), (6, .val (.int .i64)), (7, .val (.int .i64)), (18, .val (.int .i64)), (19, .val (.int .i64))]
  bs := [(2, .var gConf), (5, .var gConf)]
  pre := fun (x : RpfS) => rpfPre x
  out := fun (x : RpfS) => out2 0 (runF rpfStp (rpfMu x + 1) x)
theorem rpf_round : (fun x : RpfS => roundOf (mkC tys rpfG [(0, rpfD.spec)]) rpfD (loopB 0 (bodyOf (fnOf Tryd.prog 76))) x) =
  (fun x =>
    Tree.br (decide (x.1.2.2.2.2.2.2.1 < x.1.2.2.2.2.2.1))
      (Tree.need ((0 : Int) ≤ x.1.2.2.2.2.2.2.1 ∧ x.1.2.2.2.2.2.2.1 < (↑(List.length x.1.1) : Int))
        (Tree.br ((↑(UInt8.toNat (List.getD x.1.1 (Int.toNat x.1.2.2.2.2.2.2.1) (0 : UInt8))) : Int) != (10 : Int))
          (Tree.leaf (Ex.normal, some ((x.1.1, x.1.2.1, x.1.2.2.1, x.1.2.2.2.1, x.1.2.2.2.2.1, x.1.2.2.2.2.2.1, IntKind.wrap IntKind.i64 (x.1.2.2.2.2.2.2.1 + (1 : Int)), ()), x.2.1, x.2.2.1, ())))
          (Tree.need ((0 : Int) ≤ x.1.2.2.2.1 ∧ x.1.2.2.2.1 ≤ x.1.2.2.2.2.2.2.1 ∧ x.1.2.2.2.2.2.2.1 ≤ (↑(List.length x.1.1) : Int))
            (Tree.need (linePre (x.2.2.1, List.drop (Int.toNat x.1.2.2.2.1) (List.take (Int.toNat x.1.2.2.2.2.2.2.1) x.1.1)))
              (Tree.br (!(lineR x.2.2.1 (wordsF (List.drop (Int.toNat x.1.2.2.2.1) (List.take (Int.toNat x.1.2.2.2.2.2.2.1) x.1.1)))).2)
                (Tree.leaf
                  (Ex.ret,
                    some
                      ((x.1.1, IntKind.wrap IntKind.i64 (x.1.2.2.2.2.1 + (1 : Int)), (3 : Int), x.1.2.2.2.1, IntKind.wrap IntKind.i64 (x.1.2.2.2.2.1 + (1 : Int)), x.1.2.2.2.2.2.1, x.1.2.2.2.2.2.2.1,
                          ()),
                        ((0 : Int), ((0 : Int), (0 : Int), (0 : Int), (0 : Int)), (0 : Int), List.replicate (16 : Nat) (0 : Int)), x.2.2.1, ())))
                (Tree.leaf
                  (Ex.normal,
                    some
                      ((x.1.1, x.1.2.1, x.1.2.2.1, IntKind.wrap IntKind.i64 (x.1.2.2.2.2.2.2.1 + (1 : Int)), IntKind.wrap IntKind.i64 (x.1.2.2.2.2.1 + (1 : Int)), x.1.2.2.2.2.2.1,
                          IntKind.wrap IntKind.i64 (x.1.2.2.2.2.2.2.1 + (1 : Int)), ()),
                        x.2.1, (lineR x.2.2.1 (wordsF (List.drop (Int.toNat x.1.2.2.2.1) (List.take (Int.toNat x.1.2.2.2.2.2.2.1) x.1.1)))).1, ()))))))))
      (Tree.leaf (Ex.exit (0 : Nat), some ((x.1.1, x.1.2.1, x.1.2.2.1, x.1.2.2.2.1, x.1.2.2.2.2.1, x.1.2.2.2.2.2.1, x.1.2.2.2.2.2.2.1, ()), x.2.1, x.2.2.1, ())))) := by kernel_rfl
theorem rpf_tree : (fun x : List UInt8 => evFn (mkC tys rpfG [(0, rpfD.spec)]) (fnOf Tryd.prog 76) (resL cpfC.args x) cpfC.res) =
  (fun x =>
    Tree.br (decide ((↑(List.length x) : Int) > (2000 : Int)))
      (Tree.leaf (((0 : Int), ((0 : Int), (0 : Int), (0 : Int), (0 : Int)), (0 : Int), List.replicate (16 : Nat) (0 : Int)), (0 : Int), (4 : Int)))
      (Tree.need
        (rpfPre
          ((x, (0 : Int), (0 : Int), (0 : Int), (0 : Int), (↑(List.length x) : Int), (0 : Int), PUnit.unit),
            ((0 : Int), ((0 : Int), (0 : Int), (0 : Int), (0 : Int)), (0 : Int), List.replicate (16 : Nat) (0 : Int)),
            ((0 : Int), ((0 : Int), (0 : Int), (0 : Int), (0 : Int)), (0 : Int), List.replicate (16 : Nat) (0 : Int)), PUnit.unit))
        (Tree.br
          (isRet
            (runF rpfStp
                (rpfMu
                    ((x, (0 : Int), (0 : Int), (0 : Int), (0 : Int), (↑(List.length x) : Int), (0 : Int), PUnit.unit),
                      ((0 : Int), ((0 : Int), (0 : Int), (0 : Int), (0 : Int)), (0 : Int), List.replicate (16 : Nat) (0 : Int)),
                      ((0 : Int), ((0 : Int), (0 : Int), (0 : Int), (0 : Int)), (0 : Int), List.replicate (16 : Nat) (0 : Int)), PUnit.unit) +
                  (1 : Nat))
                ((x, (0 : Int), (0 : Int), (0 : Int), (0 : Int), (↑(List.length x) : Int), (0 : Int), PUnit.unit),
                  ((0 : Int), ((0 : Int), (0 : Int), (0 : Int), (0 : Int)), (0 : Int), List.replicate (16 : Nat) (0 : Int)),
                  ((0 : Int), ((0 : Int), (0 : Int), (0 : Int), (0 : Int)), (0 : Int), List.replicate (16 : Nat) (0 : Int)), PUnit.unit)).1)
          (Tree.leaf
            ((runF rpfStp
                      (rpfMu
                          ((x, (0 : Int), (0 : Int), (0 : Int), (0 : Int), (↑(List.length x) : Int), (0 : Int), PUnit.unit),
                            ((0 : Int), ((0 : Int), (0 : Int), (0 : Int), (0 : Int)), (0 : Int), List.replicate (16 : Nat) (0 : Int)),
                            ((0 : Int), ((0 : Int), (0 : Int), (0 : Int), (0 : Int)), (0 : Int), List.replicate (16 : Nat) (0 : Int)), PUnit.unit) +
                        (1 : Nat))
                      ((x, (0 : Int), (0 : Int), (0 : Int), (0 : Int), (↑(List.length x) : Int), (0 : Int), PUnit.unit),
                        ((0 : Int), ((0 : Int), (0 : Int), (0 : Int), (0 : Int)), (0 : Int), List.replicate (16 : Nat) (0 : Int)),
                        ((0 : Int), ((0 : Int), (0 : Int), (0 : Int), (0 : Int)), (0 : Int), List.replicate (16 : Nat) (0 : Int)), PUnit.unit)).2.2.1,
              (runF rpfStp
                        (rpfMu
                            ((x, (0 : Int), (0 : Int), (0 : Int), (0 : Int), (↑(List.length x) : Int), (0 : Int), PUnit.unit),
                              ((0 : Int), ((0 : Int), (0 : Int), (0 : Int), (0 : Int)), (0 : Int), List.replicate (16 : Nat) (0 : Int)),
                              ((0 : Int), ((0 : Int), (0 : Int), (0 : Int), (0 : Int)), (0 : Int), List.replicate (16 : Nat) (0 : Int)), PUnit.unit) +
                          (1 : Nat))
                        ((x, (0 : Int), (0 : Int), (0 : Int), (0 : Int), (↑(List.length x) : Int), (0 : Int), PUnit.unit),
                          ((0 : Int), ((0 : Int), (0 : Int), (0 : Int), (0 : Int)), (0 : Int), List.replicate (16 : Nat) (0 : Int)),
                          ((0 : Int), ((0 : Int), (0 : Int), (0 : Int), (0 : Int)), (0 : Int), List.replicate (16 : Nat) (0 : Int)), PUnit.unit)).2.1.2.1,
              (runF rpfStp
                          (rpfMu
                              ((x, (0 : Int), (0 : Int), (0 : Int), (0 : Int), (↑(List.length x) : Int), (0 : Int), PUnit.unit),
                                ((0 : Int), ((0 : Int), (0 : Int), (0 : Int), (0 : Int)), (0 : Int), List.replicate (16 : Nat) (0 : Int)),
                                ((0 : Int), ((0 : Int), (0 : Int), (0 : Int), (0 : Int)), (0 : Int), List.replicate (16 : Nat) (0 : Int)), PUnit.unit) +
                            (1 : Nat))
                          ((x, (0 : Int), (0 : Int), (0 : Int), (0 : Int), (↑(List.length x) : Int), (0 : Int), PUnit.unit),
                            ((0 : Int), ((0 : Int), (0 : Int), (0 : Int), (0 : Int)), (0 : Int), List.replicate (16 : Nat) (0 : Int)),
                            ((0 : Int), ((0 : Int), (0 : Int), (0 : Int), (0 : Int)), (0 : Int), List.replicate (16 : Nat) (0 : Int)), PUnit.unit)).2.1.2.2.1))
          (Tree.br
            (decide
              ((runF rpfStp
                              (rpfMu
                                  ((x, (0 : Int), (0 : Int), (0 : Int), (0 : Int), (↑(List.length x) : Int), (0 : Int), PUnit.unit),
                                    ((0 : Int), ((0 : Int), (0 : Int), (0 : Int), (0 : Int)), (0 : Int), List.replicate (16 : Nat) (0 : Int)),
                                    ((0 : Int), ((0 : Int), (0 : Int), (0 : Int), (0 : Int)), (0 : Int), List.replicate (16 : Nat) (0 : Int)), PUnit.unit) +
                                (1 : Nat))
                              ((x, (0 : Int), (0 : Int), (0 : Int), (0 : Int), (↑(List.length x) : Int), (0 : Int), PUnit.unit),
                                ((0 : Int), ((0 : Int), (0 : Int), (0 : Int), (0 : Int)), (0 : Int), List.replicate (16 : Nat) (0 : Int)),
                                ((0 : Int), ((0 : Int), (0 : Int), (0 : Int), (0 : Int)), (0 : Int), List.replicate (16 : Nat) (0 : Int)), PUnit.unit)).2.1.2.2.2.1 <
                (↑(List.length
                      (runF rpfStp
                              (rpfMu
                                  ((x, (0 : Int), (0 : Int), (0 : Int), (0 : Int), (↑(List.length x) : Int), (0 : Int), PUnit.unit),
                                    ((0 : Int), ((0 : Int), (0 : Int), (0 : Int), (0 : Int)), (0 : Int), List.replicate (16 : Nat) (0 : Int)),
                                    ((0 : Int), ((0 : Int), (0 : Int), (0 : Int), (0 : Int)), (0 : Int), List.replicate (16 : Nat) (0 : Int)), PUnit.unit) +
                                (1 : Nat))
                              ((x, (0 : Int), (0 : Int), (0 : Int), (0 : Int), (↑(List.length x) : Int), (0 : Int), PUnit.unit),
                                ((0 : Int), ((0 : Int), (0 : Int), (0 : Int), (0 : Int)), (0 : Int), List.replicate (16 : Nat) (0 : Int)),
                                ((0 : Int), ((0 : Int), (0 : Int), (0 : Int), (0 : Int)), (0 : Int), List.replicate (16 : Nat) (0 : Int)), PUnit.unit)).2.1.1) :
                  Int)))
            (Tree.leaf
              (((0 : Int), ((0 : Int), (0 : Int), (0 : Int), (0 : Int)), (0 : Int), List.replicate (16 : Nat) (0 : Int)),
                IntKind.wrap IntKind.i64
                  ((runF rpfStp
                                    (rpfMu
                                        ((x, (0 : Int), (0 : Int), (0 : Int), (0 : Int), (↑(List.length x) : Int), (0 : Int), PUnit.unit),
                                          ((0 : Int), ((0 : Int), (0 : Int), (0 : Int), (0 : Int)), (0 : Int), List.replicate (16 : Nat) (0 : Int)),
                                          ((0 : Int), ((0 : Int), (0 : Int), (0 : Int), (0 : Int)), (0 : Int), List.replicate (16 : Nat) (0 : Int)), PUnit.unit) +
                                      (1 : Nat))
                                    ((x, (0 : Int), (0 : Int), (0 : Int), (0 : Int), (↑(List.length x) : Int), (0 : Int), PUnit.unit),
                                      ((0 : Int), ((0 : Int), (0 : Int), (0 : Int), (0 : Int)), (0 : Int), List.replicate (16 : Nat) (0 : Int)),
                                      ((0 : Int), ((0 : Int), (0 : Int), (0 : Int), (0 : Int)), (0 : Int), List.replicate (16 : Nat) (0 : Int)), PUnit.unit)).2.1.2.2.2.2.1 +
                    (1 : Int)),
                (2 : Int)))
            (Tree.br
              (bif
                  (printF
                        (runF rpfStp
                                  (rpfMu
                                      ((x, (0 : Int), (0 : Int), (0 : Int), (0 : Int), (↑(List.length x) : Int), (0 : Int), PUnit.unit),
                                        ((0 : Int), ((0 : Int), (0 : Int), (0 : Int), (0 : Int)), (0 : Int), List.replicate (16 : Nat) (0 : Int)),
                                        ((0 : Int), ((0 : Int), (0 : Int), (0 : Int), (0 : Int)), (0 : Int), List.replicate (16 : Nat) (0 : Int)), PUnit.unit) +
                                    (1 : Nat))
                                  ((x, (0 : Int), (0 : Int), (0 : Int), (0 : Int), (↑(List.length x) : Int), (0 : Int), PUnit.unit),
                                    ((0 : Int), ((0 : Int), (0 : Int), (0 : Int), (0 : Int)), (0 : Int), List.replicate (16 : Nat) (0 : Int)),
                                    ((0 : Int), ((0 : Int), (0 : Int), (0 : Int), (0 : Int)), (0 : Int), List.replicate (16 : Nat) (0 : Int)), PUnit.unit)).2.2.2.1).2 !=
                    (0 : Int) then
                true
              else
                !(printF
                        (runF rpfStp
                                  (rpfMu
                                      ((x, (0 : Int), (0 : Int), (0 : Int), (0 : Int), (↑(List.length x) : Int), (0 : Int), PUnit.unit),
                                        ((0 : Int), ((0 : Int), (0 : Int), (0 : Int), (0 : Int)), (0 : Int), List.replicate (16 : Nat) (0 : Int)),
                                        ((0 : Int), ((0 : Int), (0 : Int), (0 : Int), (0 : Int)), (0 : Int), List.replicate (16 : Nat) (0 : Int)), PUnit.unit) +
                                    (1 : Nat))
                                  ((x, (0 : Int), (0 : Int), (0 : Int), (0 : Int), (↑(List.length x) : Int), (0 : Int), PUnit.unit),
                                    ((0 : Int), ((0 : Int), (0 : Int), (0 : Int), (0 : Int)), (0 : Int), List.replicate (16 : Nat) (0 : Int)),
                                    ((0 : Int), ((0 : Int), (0 : Int), (0 : Int), (0 : Int)), (0 : Int), List.replicate (16 : Nat) (0 : Int)), PUnit.unit)).2.2.2.1).1 ==
                    (runF rpfStp
                            (rpfMu
                                ((x, (0 : Int), (0 : Int), (0 : Int), (0 : Int), (↑(List.length x) : Int), (0 : Int), PUnit.unit),
                                  ((0 : Int), ((0 : Int), (0 : Int), (0 : Int), (0 : Int)), (0 : Int), List.replicate (16 : Nat) (0 : Int)),
                                  ((0 : Int), ((0 : Int), (0 : Int), (0 : Int), (0 : Int)), (0 : Int), List.replicate (16 : Nat) (0 : Int)), PUnit.unit) +
                              (1 : Nat))
                            ((x, (0 : Int), (0 : Int), (0 : Int), (0 : Int), (↑(List.length x) : Int), (0 : Int), PUnit.unit),
                              ((0 : Int), ((0 : Int), (0 : Int), (0 : Int), (0 : Int)), (0 : Int), List.replicate (16 : Nat) (0 : Int)),
                              ((0 : Int), ((0 : Int), (0 : Int), (0 : Int), (0 : Int)), (0 : Int), List.replicate (16 : Nat) (0 : Int)), PUnit.unit)).2.1.1)
              (Tree.leaf (((0 : Int), ((0 : Int), (0 : Int), (0 : Int), (0 : Int)), (0 : Int), List.replicate (16 : Nat) (0 : Int)), (0 : Int), (3 : Int)))
              (Tree.leaf
                ((runF rpfStp
                            (rpfMu
                                ((x, (0 : Int), (0 : Int), (0 : Int), (0 : Int), (↑(List.length x) : Int), (0 : Int), PUnit.unit),
                                  ((0 : Int), ((0 : Int), (0 : Int), (0 : Int), (0 : Int)), (0 : Int), List.replicate (16 : Nat) (0 : Int)),
                                  ((0 : Int), ((0 : Int), (0 : Int), (0 : Int), (0 : Int)), (0 : Int), List.replicate (16 : Nat) (0 : Int)), PUnit.unit) +
                              (1 : Nat))
                            ((x, (0 : Int), (0 : Int), (0 : Int), (0 : Int), (↑(List.length x) : Int), (0 : Int), PUnit.unit),
                              ((0 : Int), ((0 : Int), (0 : Int), (0 : Int), (0 : Int)), (0 : Int), List.replicate (16 : Nat) (0 : Int)),
                              ((0 : Int), ((0 : Int), (0 : Int), (0 : Int), (0 : Int)), (0 : Int), List.replicate (16 : Nat) (0 : Int)), PUnit.unit)).2.2.2.1,
                  (0 : Int), (0 : Int)))))))) := by kernel_rfl
theorem rpf_loop : LoopOK (mkC tys rpfG [(0, rpfD.spec)]) rpfD.spec (loopB 0 (bodyOf (fnOf Tryd.prog 76))) :=
  loopF2_ok (id := 0) (D := rpfD) (fun x => congrFun rpf_round x) rpfStp rpfMu (fun _ => rfl) rpfStp_ends fun (x : RpfS) hp => by
    refine ⟨?_, fun hn => rpf_go hp hn⟩
    obtain ⟨⟨s, e3, e4, a, n, len, i, ⟨⟩⟩, c2, c, ⟨⟩⟩ := x
    obtain ⟨h1, h2, h3, h4, h5, h6, h7⟩ := hp
    simp only at h1 h2 h3 h4 h5 h6 h7
    have hb : rpfB ((s, e3, e4, a, n, len, i, PUnit.unit), c2, c, PUnit.unit) = ((s.getD i.toNat 0).toNat : Int) := rfl
    have hL : rpfL ((s, e3, e4, a, n, len, i, PUnit.unit), c2, c, PUnit.unit) = lineR c (wordsF ((s.take i.toNat).drop a.toNat)) := rfl
    simp only [Tree.holds, rpfStp, hb, hL]
    refine ⟨fun h => ?_, fun h => by rw [h]; rfl⟩
    have hi := of_decide_eq_true h
    have e1 := i64_id (n := i + 1) (by omega) (by omega)
    have e2 := i64_id (n := n + 1) (by omega) (by omega)
    rw [e1, e2]
    refine ⟨⟨Int.le_trans h1 h2, by omega⟩, fun g => by rw [h, g]; rfl, fun g => ⟨⟨h1, h2, by omega⟩, ?_, fun k => by rw [h, g, k]; rfl, fun k => by rw [h, g, k]; rfl⟩⟩
    show ((s.take i.toNat).drop a.toNat).length ≤ 10000
    rw [List.length_drop, List.length_take]
    omega
theorem rpf_ok : CtrOK Tryd.prog 76 cpfC :=
  fun_ok (G := rpfG) (Λ := [(0, rpfD.spec)]) tysOK (ctrs_cons rline2_ok (ctrs_cons wprint_ok ctrs_nil)) mixed (by kernel_rfl) (by kernel_rfl) (by kernel_rfl) (by kernel_rfl) (lp_cons rpf_loop lp_nil) fun (x : List UInt8) hw hp => by
    rw [congrFun rpf_tree x]
    have e : cpfC.fn x = parseF x := rfl
    rw [e]
    unfold parseF
    by_cases hx : (x.length : Int) > 2000
    · rw [decide_eq_true hx]
      exact ⟨fun _ => rfl, fun h => by cases h⟩
    rw [decide_eq_false hx]
    obtain ⟨hp2, key⟩ := rpf_all (s := x) (by omega)
    refine ⟨fun h => (by cases h), fun _ => ⟨hp2, ?_⟩⟩
    simp only [cond_false]
    unfold rpfSt at key
    generalize parGo x [] 1 zeroConf = r at key ⊢
    generalize runF rpfStp _ _ = q at key ⊢
    simp only [Tree.holds]
    rcases key with ⟨k1, rfl, k3, k4⟩ | ⟨k1, k2, k3, k4, rfl⟩
    · refine ⟨fun _ => ?_, fun h => ?_⟩
      · unfold parEnd
        simp only
        rw [k4, k3]; rfl
      · rw [k1] at h; cases h
    · rw [k2]
      refine ⟨fun h => ?_, fun _ => ⟨fun h => ?_, fun h => ⟨fun g => ?_, fun g => ?_⟩⟩⟩
      · rw [k1] at h; cases h
      · rw [h, i64_id (n := q.2.1.2.2.2.2.1 + 1) (by omega) (by omega)]; rfl
      · rw [h]
        unfold parEnd
        simp only [cond_false]
        rw [show ((0 : Int) != 0) = false by decide, g]; rfl
      · rw [h]
        unfold parEnd
        simp only [cond_false]
        rw [show ((0 : Int) != 0) = false by decide, g]; rfl
def csameC : Ctr := { args := [gConf, gConf], res := [.bool], pre := none, fn := fun (x : DConf × DConf) => geq gConf x.1 x.2 }
def csameG : List (Nat × Ctr) := []
theorem csame_tree : (fun x : DConf × DConf => evFn (mkC tys csameG []) (fnOf Tryd.prog 77) (resL csameC.args x) csameC.res) =
  (fun x =>
    Tree.leaf
      (geq
        (GTy.prod (GTy.int IntKind.i64)
          (GTy.prod (GTy.prod (GTy.int IntKind.i64) (GTy.prod (GTy.int IntKind.i64) (GTy.prod (GTy.int IntKind.i64) (GTy.int IntKind.i64))))
            (GTy.prod (GTy.int IntKind.i64) (GTy.arr (16 : Nat) (GTy.int IntKind.u32)))))
        x.1 x.2)) := by kernel_rfl
theorem csame_ok : CtrOK Tryd.prog 77 csameC :=
  fun_ok (G := csameG) (Λ := []) tysOK ctrs_nil mixed (by kernel_rfl) (by kernel_rfl) (by kernel_rfl) (by kernel_rfl) lp_nil fun (x : DConf × DConf) hw _ => by
    rw [congrFun csame_tree x]
    exact holds_val (d := csameC.fn x) (by kernel_rfl) (by simp [Tree.safe])
def confE : DConf := (2, (2, 8, 2, 3), (csetF (0, List.replicate 16 0) 1 50).1)
def some35C : Ctr := { args := [], res := [gConf], pre := none, fn := fun (x : Unit) => confE }
def some35G : List (Nat × Ctr) := [(42, csetC)]
theorem some35_tree : (fun x : Unit => evFn (mkC tys some35G [] true) (fnOf Tryd.prog 129) (resL some35C.args x) some35C.res) =
  (fun x =>
    Tree.leaf
      ((2 : Int), ((2 : Int), (8 : Int), (2 : Int), (3 : Int)), (2 : Int),
        [(0 : Int), (50 : Int), (0 : Int), (0 : Int), (0 : Int), (0 : Int), (0 : Int), (0 : Int), (0 : Int), (0 : Int), (0 : Int), (0 : Int), (0 : Int), (0 : Int), (0 : Int), (0 : Int)])) := by kernel_rfl
theorem some35_ok : CtrOK Tryd.prog 129 some35C :=
  fun_okX true (G := some35G) (Λ := []) tysOK (ctrs_cons cset_ok ctrs_nil) mixed (by kernel_rfl) (by kernel_rfl) (by kernel_rfl) (by kernel_rfl) lp_nil fun (x : Unit) hw _ => by
    rw [congrFun some35_tree x]
    exact holds_val (d := some35C.fn x) (by kernel_rfl) (by simp [Tree.safe])
def awake35C : Ctr := { args := [], res := [.bool], pre := none, fn := fun (x : Unit) => true }
def awake35G : List (Nat × Ctr) := [(129, some35C), (63, printC), (75, cpfC), (77, csameC)]
theorem awake35_tree : (fun x : Unit => evFn (mkC tys awake35G [] true) (fnOf Tryd.prog 73) (resL awake35C.args x) awake35C.res) =
  (fun x => Tree.leaf true) := by kernel_rfl
theorem awake35_ok : CtrOK Tryd.prog 73 awake35C :=
  fun_okX true (G := awake35G) (Λ := []) tysOK (ctrs_cons some35_ok (ctrs_cons print_ok (ctrs_cons cpf_ok (ctrs_cons csame_ok ctrs_nil)))) mixed (by kernel_rfl) (by kernel_rfl) (by kernel_rfl) (by kernel_rfl) lp_nil fun (x : Unit) hw _ => by
    rw [congrFun awake35_tree x]
    exact holds_val (d := awake35C.fn x) (by kernel_rfl) (by simp [Tree.safe])
end Go.Ev.D
/- What is said of configurations answers true. -/
set_option linter.unusedVariables false
set_option linter.unusedSimpArgs false
namespace Go.Ev.D
open Go.Proofs
def wprintC : Ctr := printC
def rpfC : Ctr := cpfC
end Go.Ev.D
/- Several configurations printed. -/
set_option linter.unusedVariables false
set_option linter.unusedSimpArgs false
namespace Go.Ev.D
open Go.Proofs

def pallG : List (Nat × Ctr) := [(63, printC)]
theorem pallG_ok : CtrsOK Tryd.prog (fun f => lk f pallG) := (ctrs_cons print_ok ctrs_nil)
def paC : Ctr := { args := [.sl gConf], res := [.str, .int .i64], pre := none, fn := fun (x : List DConf) => paF x }
def paD : LoopD where
  prom := []
  ts := [(0, .val (.sl gConf)), (2, .val .str), (3, .val (.int .i64)), (4, .val .str), (12, .val (.sl gConf)), (13, .val (.int .i64)), (14, .val (.int .i64))]
  bs := []
  pre := fun (x : PaS) => paPre x
  out := fun (x : PaS) => out2 0 (runF paStp (paMu x + 1) x)
theorem pall_round : (fun x : PaS => roundOf (mkC tys pallG [(0, paD.spec)]) paD (loopB 0 (bodyOf (fnOf Tryd.prog 88))) x) =
  (fun x =>
    Tree.br (decide (x.1.2.2.2.2.2.2.1 < x.1.2.2.2.2.2.1))
      (Tree.need ((0 : Int) ≤ x.1.2.2.2.2.2.2.1 ∧ x.1.2.2.2.2.2.2.1 < (↑(List.length x.1.2.2.2.2.1) : Int))
        (Tree.need
          ((decide (x.1.2.2.2.2.2.2.1 > (0 : Int)) == true && true) = true →
            (0 : Int) ≤ IntKind.wrap IntKind.i64 (x.1.2.2.2.2.2.2.1 - (1 : Int)) ∧ IntKind.wrap IntKind.i64 (x.1.2.2.2.2.2.2.1 - (1 : Int)) < (↑(List.length x.1.1) : Int))
          (Tree.br
            (bif decide (x.1.2.2.2.2.2.2.1 > (0 : Int)) then
              decide
                ((List.getD x.1.2.2.2.2.1 (Int.toNat x.1.2.2.2.2.2.2.1) ((0 : Int), ((0 : Int), (0 : Int), (0 : Int), (0 : Int)), (0 : Int), List.replicate (16 : Nat) (0 : Int))).1 ≤
                  (List.getD x.1.1 (Int.toNat (IntKind.wrap IntKind.i64 (x.1.2.2.2.2.2.2.1 - (1 : Int))))
                      ((0 : Int), ((0 : Int), (0 : Int), (0 : Int), (0 : Int)), (0 : Int), List.replicate (16 : Nat) (0 : Int))).1)
            else false)
            (Tree.leaf (Ex.ret, some ((x.1.1, [], (10 : Int), x.1.2.2.2.1, x.1.2.2.2.2.1, x.1.2.2.2.2.2.1, x.1.2.2.2.2.2.2.1, ()), ())))
            (Tree.br
              ((printF (List.getD x.1.2.2.2.2.1 (Int.toNat x.1.2.2.2.2.2.2.1) ((0 : Int), ((0 : Int), (0 : Int), (0 : Int), (0 : Int)), (0 : Int), List.replicate (16 : Nat) (0 : Int)))).2 != (0 : Int))
              (Tree.leaf
                (Ex.ret,
                  some
                    ((x.1.1, [],
                        (printF (List.getD x.1.2.2.2.2.1 (Int.toNat x.1.2.2.2.2.2.2.1) ((0 : Int), ((0 : Int), (0 : Int), (0 : Int), (0 : Int)), (0 : Int), List.replicate (16 : Nat) (0 : Int)))).2,
                        x.1.2.2.2.1, x.1.2.2.2.2.1, x.1.2.2.2.2.2.1, x.1.2.2.2.2.2.2.1, ()),
                      ())))
              (Tree.need
                (List.length x.1.2.2.2.1 +
                    List.length
                      (printF (List.getD x.1.2.2.2.2.1 (Int.toNat x.1.2.2.2.2.2.2.1) ((0 : Int), ((0 : Int), (0 : Int), (0 : Int), (0 : Int)), (0 : Int), List.replicate (16 : Nat) (0 : Int)))).1 ≤
                  (4611686018427387904 : Nat))
                (Tree.leaf
                  (Ex.normal,
                    some
                      ((x.1.1, x.1.2.1, x.1.2.2.1,
                          x.1.2.2.2.1 ++
                            (printF (List.getD x.1.2.2.2.2.1 (Int.toNat x.1.2.2.2.2.2.2.1) ((0 : Int), ((0 : Int), (0 : Int), (0 : Int), (0 : Int)), (0 : Int), List.replicate (16 : Nat) (0 : Int)))).1,
                          x.1.2.2.2.2.1, x.1.2.2.2.2.2.1, IntKind.wrap IntKind.i64 (x.1.2.2.2.2.2.2.1 + (1 : Int)), ()),
                        ()))))))))
      (Tree.leaf (Ex.exit (0 : Nat), some ((x.1.1, x.1.2.1, x.1.2.2.1, x.1.2.2.2.1, x.1.2.2.2.2.1, x.1.2.2.2.2.2.1, x.1.2.2.2.2.2.2.1, ()), ())))) := by kernel_rfl
theorem pall_tree : (fun x : List DConf => evFn (mkC tys pallG [(0, paD.spec)]) (fnOf Tryd.prog 88) (resL paC.args x) paC.res) =
  (fun x =>
    Tree.br (decide ((↑(List.length x) : Int) > (8 : Int))) (Tree.leaf ([], (4 : Int)))
      (Tree.need (paPre ((x, [], (0 : Int), [], x, (↑(List.length x) : Int), (0 : Int), PUnit.unit), PUnit.unit))
        (Tree.br
          (isRet
            (runF paStp (paMu ((x, [], (0 : Int), [], x, (↑(List.length x) : Int), (0 : Int), PUnit.unit), PUnit.unit) + (1 : Nat))
                ((x, [], (0 : Int), [], x, (↑(List.length x) : Int), (0 : Int), PUnit.unit), PUnit.unit)).1)
          (Tree.leaf
            ((runF paStp (paMu ((x, [], (0 : Int), [], x, (↑(List.length x) : Int), (0 : Int), PUnit.unit), PUnit.unit) + (1 : Nat))
                        ((x, [], (0 : Int), [], x, (↑(List.length x) : Int), (0 : Int), PUnit.unit), PUnit.unit)).2.1.2.1,
              (runF paStp (paMu ((x, [], (0 : Int), [], x, (↑(List.length x) : Int), (0 : Int), PUnit.unit), PUnit.unit) + (1 : Nat))
                          ((x, [], (0 : Int), [], x, (↑(List.length x) : Int), (0 : Int), PUnit.unit), PUnit.unit)).2.1.2.2.1))
          (Tree.leaf
            ((runF paStp (paMu ((x, [], (0 : Int), [], x, (↑(List.length x) : Int), (0 : Int), PUnit.unit), PUnit.unit) + (1 : Nat))
                            ((x, [], (0 : Int), [], x, (↑(List.length x) : Int), (0 : Int), PUnit.unit), PUnit.unit)).2.1.2.2.2.1,
              (0 : Int)))))) := by kernel_rfl
theorem pall_loop : LoopOK (mkC tys pallG [(0, paD.spec)]) paD.spec (loopB 0 (bodyOf (fnOf Tryd.prog 88))) :=
  loopF2_ok (id := 0) (D := paD) (fun x => congrFun pall_round x) paStp paMu (fun _ => rfl) paStp_ends fun (x : PaS) hp => by
    refine ⟨?_, fun hn => pa_go hp hn⟩
    obtain ⟨⟨l0, r, e, o, l, n, i, ⟨⟩⟩, ⟨⟩⟩ := x
    obtain ⟨h1, h2, h3, h4, h5, h6⟩ := hp
    simp only at h1 h2 h3 h4 h5 h6
    subst h5
    have hz : ((0 : Int), ((0 : Int), (0 : Int), (0 : Int), (0 : Int)), (0 : Int), List.replicate (16 : Nat) (0 : Int)) = zeroConf := rfl
    simp only [Tree.holds, hz, paStp]
    have hl := printF_len (l0.getD i.toNat zeroConf)
    have e1 : IntKind.i64.wrap (i - 1) = i - 1 := i64_id (by omega) (by omega)
    rw [e1]
    have hb : (bif decide (i > 0) then decide ((l0.getD i.toNat zeroConf).1 ≤ (l0.getD (i - 1).toNat zeroConf).1) else false) = paBad l0 i (l0.getD i.toNat zeroConf) := rfl
    rw [hb]
    refine ⟨fun h => ?_, fun h => by rw [h]; rfl⟩
    have h' : i < n := of_decide_eq_true h
    refine ⟨⟨h1, by omega⟩, fun g => ?_, fun g => ?_, fun g => ⟨fun k => ?_, fun k => ⟨?_, ?_⟩⟩⟩
    · have g' : i > 0 := by simpa using g
      exact ⟨by omega, by omega⟩
    · rw [h, g]; rfl
    · rw [h, g, k]; rfl
    · omega
    · rw [h, g, k, i64_id (n := i + 1) (by omega) (by omega)]; rfl
theorem pall_ok : CtrOK Tryd.prog 88 paC :=
  fun_ok (G := pallG) (Λ := [(0, paD.spec)]) tysOK pallG_ok mixed (by kernel_rfl) (by kernel_rfl) (by kernel_rfl) (by kernel_rfl) (lp_cons pall_loop lp_nil) fun (x : List DConf) hw hp => by
    rw [congrFun pall_tree x]
    have e : paC.fn x = paF x := rfl
    rw [e]
    by_cases hx : (x.length : Int) > 8
    · rw [decide_eq_true hx]
      refine ⟨fun _ => ?_, fun h => by cases h⟩
      unfold paF
      rw [decide_eq_true hx]; rfl
    rw [decide_eq_false hx]
    obtain ⟨hp2, key⟩ := pa_all (l := x) hx
    refine ⟨fun h => (by cases h), fun _ => ⟨hp2, ?_⟩⟩
    rw [← key]
    generalize runF paStp _ _ = q
    unfold paEnd
    exact ⟨fun h => by rw [h]; rfl, fun h => by rw [h]; rfl⟩

def wpallG : List (Nat × Ctr) := [(74, wprintC)]
theorem wpallG_ok : CtrsOK Tryd.prog (fun f => lk f wpallG) := (ctrs_cons wprint_ok ctrs_nil)
theorem wpall_round : (fun x : PaS => roundOf (mkC tys wpallG [(0, paD.spec)]) paD (loopB 0 (bodyOf (fnOf Tryd.prog 89))) x) =
  (fun x =>
    Tree.br (decide (x.1.2.2.2.2.2.2.1 < x.1.2.2.2.2.2.1))
      (Tree.need ((0 : Int) ≤ x.1.2.2.2.2.2.2.1 ∧ x.1.2.2.2.2.2.2.1 < (↑(List.length x.1.2.2.2.2.1) : Int))
        (Tree.need
          ((decide (x.1.2.2.2.2.2.2.1 > (0 : Int)) == true && true) = true →
            (0 : Int) ≤ IntKind.wrap IntKind.i64 (x.1.2.2.2.2.2.2.1 - (1 : Int)) ∧ IntKind.wrap IntKind.i64 (x.1.2.2.2.2.2.2.1 - (1 : Int)) < (↑(List.length x.1.1) : Int))
          (Tree.br
            (bif decide (x.1.2.2.2.2.2.2.1 > (0 : Int)) then
              decide
                ((List.getD x.1.1 (Int.toNat (IntKind.wrap IntKind.i64 (x.1.2.2.2.2.2.2.1 - (1 : Int))))
                      ((0 : Int), ((0 : Int), (0 : Int), (0 : Int), (0 : Int)), (0 : Int), List.replicate (16 : Nat) (0 : Int))).1 ≥
                  (List.getD x.1.2.2.2.2.1 (Int.toNat x.1.2.2.2.2.2.2.1) ((0 : Int), ((0 : Int), (0 : Int), (0 : Int), (0 : Int)), (0 : Int), List.replicate (16 : Nat) (0 : Int))).1)
            else false)
            (Tree.leaf (Ex.ret, some ((x.1.1, [], (10 : Int), x.1.2.2.2.1, x.1.2.2.2.2.1, x.1.2.2.2.2.2.1, x.1.2.2.2.2.2.2.1, ()), ())))
            (Tree.br
              ((printF (List.getD x.1.2.2.2.2.1 (Int.toNat x.1.2.2.2.2.2.2.1) ((0 : Int), ((0 : Int), (0 : Int), (0 : Int), (0 : Int)), (0 : Int), List.replicate (16 : Nat) (0 : Int)))).2 != (0 : Int))
              (Tree.leaf
                (Ex.ret,
                  some
                    ((x.1.1, [],
                        (printF (List.getD x.1.2.2.2.2.1 (Int.toNat x.1.2.2.2.2.2.2.1) ((0 : Int), ((0 : Int), (0 : Int), (0 : Int), (0 : Int)), (0 : Int), List.replicate (16 : Nat) (0 : Int)))).2,
                        x.1.2.2.2.1, x.1.2.2.2.2.1, x.1.2.2.2.2.2.1, x.1.2.2.2.2.2.2.1, ()),
                      ())))
              (Tree.need
                (List.length x.1.2.2.2.1 +
                    List.length
                      (printF (List.getD x.1.2.2.2.2.1 (Int.toNat x.1.2.2.2.2.2.2.1) ((0 : Int), ((0 : Int), (0 : Int), (0 : Int), (0 : Int)), (0 : Int), List.replicate (16 : Nat) (0 : Int)))).1 ≤
                  (4611686018427387904 : Nat))
                (Tree.leaf
                  (Ex.normal,
                    some
                      ((x.1.1, x.1.2.1, x.1.2.2.1,
                          x.1.2.2.2.1 ++
                            (printF (List.getD x.1.2.2.2.2.1 (Int.toNat x.1.2.2.2.2.2.2.1) ((0 : Int), ((0 : Int), (0 : Int), (0 : Int), (0 : Int)), (0 : Int), List.replicate (16 : Nat) (0 : Int)))).1,
                          x.1.2.2.2.2.1, x.1.2.2.2.2.2.1, IntKind.wrap IntKind.i64 (x.1.2.2.2.2.2.2.1 + (1 : Int)), ()),
                        ()))))))))
      (Tree.leaf (Ex.exit (0 : Nat), some ((x.1.1, x.1.2.1, x.1.2.2.1, x.1.2.2.2.1, x.1.2.2.2.2.1, x.1.2.2.2.2.2.1, x.1.2.2.2.2.2.2.1, ()), ())))) := by kernel_rfl
theorem wpall_tree : (fun x : List DConf => evFn (mkC tys wpallG [(0, paD.spec)]) (fnOf Tryd.prog 89) (resL paC.args x) paC.res) =
  (fun x =>
    Tree.br (decide ((↑(List.length x) : Int) > (8 : Int))) (Tree.leaf ([], (4 : Int)))
      (Tree.need (paPre ((x, [], (0 : Int), [], x, (↑(List.length x) : Int), (0 : Int), PUnit.unit), PUnit.unit))
        (Tree.br
          (isRet
            (runF paStp (paMu ((x, [], (0 : Int), [], x, (↑(List.length x) : Int), (0 : Int), PUnit.unit), PUnit.unit) + (1 : Nat))
                ((x, [], (0 : Int), [], x, (↑(List.length x) : Int), (0 : Int), PUnit.unit), PUnit.unit)).1)
          (Tree.leaf
            ((runF paStp (paMu ((x, [], (0 : Int), [], x, (↑(List.length x) : Int), (0 : Int), PUnit.unit), PUnit.unit) + (1 : Nat))
                        ((x, [], (0 : Int), [], x, (↑(List.length x) : Int), (0 : Int), PUnit.unit), PUnit.unit)).2.1.2.1,
              (runF paStp (paMu ((x, [], (0 : Int), [], x, (↑(List.length x) : Int), (0 : Int), PUnit.unit), PUnit.unit) + (1 : Nat))
                          ((x, [], (0 : Int), [], x, (↑(List.length x) : Int), (0 : Int), PUnit.unit), PUnit.unit)).2.1.2.2.1))
          (Tree.leaf
            ((runF paStp (paMu ((x, [], (0 : Int), [], x, (↑(List.length x) : Int), (0 : Int), PUnit.unit), PUnit.unit) + (1 : Nat))
                            ((x, [], (0 : Int), [], x, (↑(List.length x) : Int), (0 : Int), PUnit.unit), PUnit.unit)).2.1.2.2.2.1,
              (0 : Int)))))) := by kernel_rfl
theorem wpall_loop : LoopOK (mkC tys wpallG [(0, paD.spec)]) paD.spec (loopB 0 (bodyOf (fnOf Tryd.prog 89))) :=
  loopF2_ok (id := 0) (D := paD) (fun x => congrFun wpall_round x) paStp paMu (fun _ => rfl) paStp_ends fun (x : PaS) hp => by
    refine ⟨?_, fun hn => pa_go hp hn⟩
    obtain ⟨⟨l0, r, e, o, l, n, i, ⟨⟩⟩, ⟨⟩⟩ := x
    obtain ⟨h1, h2, h3, h4, h5, h6⟩ := hp
    simp only at h1 h2 h3 h4 h5 h6
    subst h5
    have hz : ((0 : Int), ((0 : Int), (0 : Int), (0 : Int), (0 : Int)), (0 : Int), List.replicate (16 : Nat) (0 : Int)) = zeroConf := rfl
    simp only [Tree.holds, hz, paStp]
    have hl := printF_len (l0.getD i.toNat zeroConf)
    have e1 : IntKind.i64.wrap (i - 1) = i - 1 := i64_id (by omega) (by omega)
    rw [e1]
    have hb : (bif decide (i > 0) then decide ((l0.getD i.toNat zeroConf).1 ≤ (l0.getD (i - 1).toNat zeroConf).1) else false) = paBad l0 i (l0.getD i.toNat zeroConf) := rfl
    rw [hb]
    refine ⟨fun h => ?_, fun h => by rw [h]; rfl⟩
    have h' : i < n := of_decide_eq_true h
    refine ⟨⟨h1, by omega⟩, fun g => ?_, fun g => ?_, fun g => ⟨fun k => ?_, fun k => ⟨?_, ?_⟩⟩⟩
    · have g' : i > 0 := by simpa using g
      exact ⟨by omega, by omega⟩
    · rw [h, g]; rfl
    · rw [h, g, k]; rfl
    · omega
    · rw [h, g, k, i64_id (n := i + 1) (by omega) (by omega)]; rfl
theorem wpall_ok : CtrOK Tryd.prog 89 paC :=
  fun_ok (G := wpallG) (Λ := [(0, paD.spec)]) tysOK wpallG_ok mixed (by kernel_rfl) (by kernel_rfl) (by kernel_rfl) (by kernel_rfl) (lp_cons wpall_loop lp_nil) fun (x : List DConf) hw hp => by
    rw [congrFun wpall_tree x]
    have e : paC.fn x = paF x := rfl
    rw [e]
    by_cases hx : (x.length : Int) > 8
    · rw [decide_eq_true hx]
      refine ⟨fun _ => ?_, fun h => by cases h⟩
      unfold paF
      rw [decide_eq_true hx]; rfl
    rw [decide_eq_false hx]
    obtain ⟨hp2, key⟩ := pa_all (l := x) hx
    refine ⟨fun h => (by cases h), fun _ => ⟨hp2, ?_⟩⟩
    rw [← key]
    generalize runF paStp _ _ = q
    unfold paEnd
    exact ⟨fun h => by rw [h]; rfl, fun h => by rw [h]; rfl⟩
end Go.Ev.D
/- Several configurations parsed. -/
set_option linter.unusedVariables false
set_option linter.unusedSimpArgs false
namespace Go.Ev.D
open Go.Proofs
def sindexC : Ctr := { args := [.str, .str], res := [.int .i64], pre := some (fun (x : List UInt8 × List UInt8) => x.1.length ≤ 10000), fn := fun (x : List UInt8 × List UInt8) => Lib.index x.1 x.2 }
theorem sindex_ok : CtrOK Tryd.prog 157 sindexC := by
  refine ⟨⟨_, fnOf_eq (by kernel_rfl), by kernel_rfl, by kernel_rfl⟩, ?_⟩
  intro w S us (x : List UInt8 × List UInt8) hS hT henc hp
  have hlen : x.1.length ≤ 10000 := hp (fun (x : List UInt8 × List UInt8) => x.1.length ≤ 10000) rfl
  obtain ⟨s, t⟩ := x
  obtain ⟨c1, us1, ⟨rfl, _⟩, rfl, c2, ⟨rfl, _⟩, rfl⟩ := henc
  obtain ⟨m, hm⟩ := int_cell hT any3
  show Calls Tryd.prog 157 #[.string ⟨⟨s⟩⟩, .string ⟨⟨t⟩⟩] w _
  refine (Tryd.strings_Index ⟨⟨s⟩⟩ ⟨⟨t⟩⟩ m w (by show s.length < _; simp only at hlen; omega) hm).mono ?_
  rintro e w' ⟨rfl, rfl⟩
  have h1 := idx_le s t
  have h2 := Lib.index_ge s t
  simp only at hlen
  refine ⟨_, rfl, Grows.refl _, fun _ _ => False, fun _ _ h => h.elim, [_], ⟨_, ⟨rfl, ?_⟩, rfl⟩, rfl⟩
  exact (has_i64 _).2 ⟨by show -9223372036854775808 ≤ Lib.index s t; omega, by show Lib.index s t ≤ 9223372036854775807; omega⟩
def pendG : List (Nat × Ctr) := [(157, sindexC)]
theorem pendG_ok : CtrsOK Tryd.prog (fun f => lk f pendG) := (ctrs_cons sindex_ok ctrs_nil)
def pendC : Ctr := { args := [.str], res := [.int .i64], pre := some (fun (x : List UInt8) => x.length ≤ 10000), fn := fun (x : List UInt8) => (endF x : Int) }
theorem pend_tree : (fun x : List UInt8 => evFn (mkC tys pendG []) (fnOf Tryd.prog 137) (resL pendC.args x) pendC.res) =
  (fun x =>
    Tree.need (List.length x ≤ (10000 : Nat))
      (Tree.br (decide (Lib.index x [(10 : UInt8), (110 : UInt8), (111 : UInt8), (100 : UInt8), (101 : UInt8), (32 : UInt8)] < (0 : Int))) (Tree.leaf (↑(List.length x) : Int))
        (Tree.leaf (IntKind.wrap IntKind.i64 (Lib.index x [(10 : UInt8), (110 : UInt8), (111 : UInt8), (100 : UInt8), (101 : UInt8), (32 : UInt8)] + (1 : Int)))))) := by kernel_rfl
theorem pend_ok : CtrOK Tryd.prog 137 pendC :=
  fun_ok (G := pendG) (Λ := []) tysOK pendG_ok mixed (by kernel_rfl) (by kernel_rfl) (by kernel_rfl) (by kernel_rfl) lp_nil fun (x : List UInt8) hw hp => by
    have hx : x.length ≤ 10000 := hp (fun (x : List UInt8) => x.length ≤ 10000) rfl
    rw [congrFun pend_tree x]
    obtain ⟨h1, h2⟩ := end_index x
    have h3 := idx_le x (10 :: nodeW)
    have h4 := Lib.index_ge x (10 :: nodeW)
    have e : pendC.fn x = (endF x : Int) := rfl
    have e2 : ([(10 : UInt8), (110 : UInt8), (111 : UInt8), (100 : UInt8), (101 : UInt8), (32 : UInt8)] : List UInt8) = 10 :: nodeW := rfl
    rw [e, e2]
    refine ⟨hx, fun h => h1 (of_decide_eq_true h), fun h => ?_⟩
    rw [i64_id (by omega) (by omega)]
    exact h2 (of_decide_eq_false h)
def beginsC : Ctr := { args := [.str], res := [.bool], pre := none, fn := fun (x : List UInt8) => beginsF x }
theorem begins_tree : (fun x : List UInt8 => evFn (mkC tys [] []) (fnOf Tryd.prog 138) (resL beginsC.args x) beginsC.res) =
  (fun x =>
    Tree.need ((decide ((↑(List.length x) : Int) ≥ (5 : Int)) == true && true) = true → (0 : Int) ≤ (5 : Int) ∧ (5 : Int) ≤ (↑(List.length x) : Int))
      (Tree.leaf (bif decide ((↑(List.length x) : Int) ≥ (5 : Int)) then List.take (5 : Nat) x == [(110 : UInt8), (111 : UInt8), (100 : UInt8), (101 : UInt8), (32 : UInt8)] else false))) := by kernel_rfl
theorem begins_ok : CtrOK Tryd.prog 138 beginsC :=
  fun_ok (G := []) (Λ := []) tysOK ctrs_nil mixed (by kernel_rfl) (by kernel_rfl) (by kernel_rfl) (by kernel_rfl) lp_nil fun (x : List UInt8) hw hp => by
    rw [congrFun begins_tree x]
    have e : beginsC.fn x = beginsF x := rfl
    rw [e]
    refine ⟨fun h => ?_, begins_take⟩
    have h2 : (x.length : Int) ≥ 5 := by simpa using h
    exact ⟨by omega, h2⟩
def pallC : Ctr := paC
def pgG : List (Nat × Ctr) := [(137, pendC), (75, cpfC), (88, pallC)]
theorem pgG_ok : CtrsOK Tryd.prog (fun f => lk f pgG) := (ctrs_cons pend_ok (ctrs_cons cpf_ok (ctrs_cons pall_ok ctrs_nil)))
def pgD : LoopD where
  prom := [(5, 1005, 75, gConf)]
  ts := [(2, .nil), (3, .val (.int .i64)), (4, .val (.int .i64)), (5, .tip 1005), (6, .val .str), (7, .val (.int .i64))]
  bs := [(1005, .row 75 gConf false)]
  pre := fun (x : PgS) => pgPre x
  out := fun (x : PgS) => out2 0 (runF pgStp (pgMu x + 1) x)
def pgC : Ctr := { args := [.str], res := [.sl gConf, .int .i64, .int .i64], pre := none, fn := fun (x : List UInt8) => pgF x }
theorem pg_round : (fun x : PgS => roundOf (mkC tys pgG [(0, pgD.spec)]) pgD (loopB 0 (bodyOf (fnOf Tryd.prog 90))) x) =
  (fun x =>
    Tree.br (!x.1.2.2.1 == [])
      (Tree.need (List.length x.1.2.2.1 ≤ (10000 : Nat))
        (Tree.need ((0 : Int) ≤ (↑(endF x.1.2.2.1) : Int) ∧ (↑(endF x.1.2.2.1) : Int) ≤ (↑(List.length x.1.2.2.1) : Int))
          (Tree.br ((parseF (List.take (Int.toNat (↑(endF x.1.2.2.1) : Int)) x.1.2.2.1)).2.2 != (0 : Int))
            (Tree.leaf (Ex.ret, some ((x.1.2.2.2.1, (parseF (List.take (Int.toNat (↑(endF x.1.2.2.1) : Int)) x.1.2.2.1)).2.2, x.1.2.2.1, x.1.2.2.2.1, ()), x.2.1, ())))
            (Tree.need ((List.length x.2.1 + (1 : Nat)) * (112 : Nat) ≤ (140737488355328 : Nat))
              (Tree.need ((0 : Int) ≤ (↑(endF x.1.2.2.1) : Int) ∧ (↑(endF x.1.2.2.1) : Int) ≤ (↑(List.length x.1.2.2.1) : Int))
                (Tree.leaf
                  (Ex.normal,
                    some
                      ((x.1.1, x.1.2.1, List.drop (Int.toNat (↑(endF x.1.2.2.1) : Int)) x.1.2.2.1, IntKind.wrap IntKind.i64 (x.1.2.2.2.1 + (1 : Int)), ()),
                        x.2.1 ++ [(parseF (List.take (Int.toNat (↑(endF x.1.2.2.1) : Int)) x.1.2.2.1)).1], ()))))))))
      (Tree.leaf (Ex.exit (0 : Nat), some ((x.1.1, x.1.2.1, x.1.2.2.1, x.1.2.2.2.1, ()), x.2.1, ())))) := by kernel_rfl
theorem pg_tree : (fun x : List UInt8 => evFn (mkC tys pgG [(0, pgD.spec)]) (fnOf Tryd.prog 90) (resL pgC.args x) pgC.res) =
  (fun x =>
    Tree.br (decide ((↑(List.length x) : Int) > (8000 : Int))) (Tree.leaf ([], (0 : Int), (4 : Int)))
      (Tree.need (pgPre (((0 : Int), (0 : Int), x, (1 : Int), PUnit.unit), [], PUnit.unit))
        (Tree.br (isRet (runF pgStp (pgMu (((0 : Int), (0 : Int), x, (1 : Int), PUnit.unit), [], PUnit.unit) + (1 : Nat)) (((0 : Int), (0 : Int), x, (1 : Int), PUnit.unit), [], PUnit.unit)).1)
          (Tree.leaf
            ([], (runF pgStp (pgMu (((0 : Int), (0 : Int), x, (1 : Int), PUnit.unit), [], PUnit.unit) + (1 : Nat)) (((0 : Int), (0 : Int), x, (1 : Int), PUnit.unit), [], PUnit.unit)).2.1.1,
              (runF pgStp (pgMu (((0 : Int), (0 : Int), x, (1 : Int), PUnit.unit), [], PUnit.unit) + (1 : Nat)) (((0 : Int), (0 : Int), x, (1 : Int), PUnit.unit), [], PUnit.unit)).2.1.2.1))
          (Tree.br
            (bif
                (paF (runF pgStp (pgMu (((0 : Int), (0 : Int), x, (1 : Int), PUnit.unit), [], PUnit.unit) + (1 : Nat)) (((0 : Int), (0 : Int), x, (1 : Int), PUnit.unit), [], PUnit.unit)).2.2.1).2 !=
                  (0 : Int) then
              true
            else
              !(paF (runF pgStp (pgMu (((0 : Int), (0 : Int), x, (1 : Int), PUnit.unit), [], PUnit.unit) + (1 : Nat)) (((0 : Int), (0 : Int), x, (1 : Int), PUnit.unit), [], PUnit.unit)).2.2.1).1 == x)
            (Tree.leaf ([], (0 : Int), (3 : Int)))
            (Tree.leaf
              ((runF pgStp (pgMu (((0 : Int), (0 : Int), x, (1 : Int), PUnit.unit), [], PUnit.unit) + (1 : Nat)) (((0 : Int), (0 : Int), x, (1 : Int), PUnit.unit), [], PUnit.unit)).2.2.1, (0 : Int),
                (0 : Int))))))) := by kernel_rfl
theorem pg_loop : LoopOK (mkC tys pgG [(0, pgD.spec)]) pgD.spec (loopB 0 (bodyOf (fnOf Tryd.prog 90))) :=
  loopF2_ok (id := 0) (D := pgD) (fun x => congrFun pg_round x) pgStp pgMu (fun _ => rfl) pgStp_ends fun (x : PgS) hp => by
    refine ⟨?_, fun hn => pg_go hp hn⟩
    obtain ⟨⟨e, e2, r, a, ⟨⟩⟩, o, ⟨⟩⟩ := x
    obtain ⟨h1, h2, h3, h4⟩ := hp
    simp only at h1 h2 h3 h4
    have hl := end_le r
    simp only [Tree.holds, pgStp, Int.toNat_natCast]
    have hr : (r != []) = !(r == []) := rfl
    rw [hr]
    refine ⟨fun h => ?_, fun h => by rw [h]; rfl⟩
    refine ⟨by omega, ⟨by omega, by omega⟩, fun g => by rw [h, g]; rfl, fun g => ⟨?_, ⟨by omega, by omega⟩, ?_⟩⟩
    · have : r ≠ [] := fun k => by rw [k] at h; cases h
      have := List.length_pos_iff.2 this
      omega
    · rw [h, g, i64_id (n := a + 1) (by omega) (by omega)]; rfl
theorem pg_ok : CtrOK Tryd.prog 90 pgC :=
  fun_ok (G := pgG) (Λ := [(0, pgD.spec)]) tysOK pgG_ok mixed (by kernel_rfl) (by kernel_rfl) (by kernel_rfl) (by kernel_rfl) (lp_cons pg_loop lp_nil) fun (x : List UInt8) hw hp => by
    rw [congrFun pg_tree x]
    have e : pgC.fn x = pgF x := rfl
    rw [e]
    unfold pgF
    by_cases hx : (x.length : Int) > 8000
    · rw [decide_eq_true hx]
      exact ⟨fun _ => rfl, fun h => by cases h⟩
    rw [decide_eq_false hx]
    have hp2 := pg_pre hx
    refine ⟨fun h => (by cases h), fun _ => ⟨hp2, ?_⟩⟩
    have em : pgMu (((0 : Int), (0 : Int), x, (1 : Int), PUnit.unit), [], PUnit.unit) + 1 = x.length + 1 := rfl
    rw [em]
    have es : pgSt x = (((0 : Int), (0 : Int), x, (1 : Int), PUnit.unit), [], PUnit.unit) := rfl
    rw [← es]
    generalize runF pgStp _ _ = q
    unfold pgEnd
    have hne : ((paF q.2.2.1).1 != x) = !((paF q.2.2.1).1 == x) := rfl
    rw [hne]
    exact ⟨fun h => by rw [h]; rfl, fun h => ⟨fun g => by rw [h, g]; rfl, fun g => by rw [h, g]; rfl⟩⟩
end Go.Ev.D
/- Several configurations parsed as the document does. -/
set_option linter.unusedVariables false
set_option linter.unusedSimpArgs false
namespace Go.Ev.D
open Go.Proofs
def wpallC : Ctr := paC
def rgG : List (Nat × Ctr) := [(138, beginsC), (76, rpfC), (89, wpallC)]
theorem rgG_ok : CtrsOK Tryd.prog (fun f => lk f rgG) := (ctrs_cons begins_ok (ctrs_cons rpf_ok (ctrs_cons wpall_ok ctrs_nil)))
def leD : LoopD where
  prom := []
  ts := [(0, .val .str), (8, .val (.int .i64))]
  bs := []
  pre := fun (x : LeS) => lePre x
  out := fun (x : LeS) => .leaf (.exit 2, ((x.1.1, leE x.1.1 x.1.2.1, ()), ()))
def rgD : LoopD where
  prom := [(5, 1005, 75, gConf)]
  ts := [(0, .val .str), (2, .nil), (3, .val (.int .i64)), (4, .val (.int .i64)), (5, .tip 1005), (6, .val (.int .i64)), (7, .val (.int .i64))]
  bs := [(1005, .row 75 gConf false)]
  pre := fun (x : RgS) => rgPre x
  out := fun (x : RgS) => out2 0 (runF rgStp (rgMu x + 1) x)
noncomputable def rgL : List (Nat × LoopSpec) := [(0, rgD.spec), (2, leD.spec)]
theorem le_round : (fun x : LeS => roundOf (mkC tys rgG rgL) leD (loopB 2 (bodyOf (fnOf Tryd.prog 91))) x) =
  (fun x =>
    Tree.need ((decide (x.1.2.1 < (↑(List.length x.1.1) : Int)) == true && true) = true → (0 : Int) ≤ x.1.2.1 ∧ x.1.2.1 < (↑(List.length x.1.1) : Int))
      (Tree.br (bif decide (x.1.2.1 < (↑(List.length x.1.1) : Int)) then (↑(UInt8.toNat (List.getD x.1.1 (Int.toNat x.1.2.1) (0 : UInt8))) : Int) != (10 : Int) else false)
        (Tree.leaf (Ex.normal, some ((x.1.1, IntKind.wrap IntKind.i64 (x.1.2.1 + (1 : Int)), ()), ()))) (Tree.leaf (Ex.exit (2 : Nat), some ((x.1.1, x.1.2.1, ()), ()))))) := by kernel_rfl
theorem rg_round : (fun x : RgS => roundOf (mkC tys rgG rgL) rgD (loopB 0 (bodyOf (fnOf Tryd.prog 91))) x) =
  (fun x =>
    Tree.br (decide (x.1.2.2.2.1 < (↑(List.length x.1.1) : Int)))
      (Tree.need (lePre ((x.1.1, x.1.2.2.2.1, PUnit.unit), PUnit.unit))
        (Tree.need
          ((((if (↑(List.length x.1.1) : Int) < IntKind.wrap IntKind.i64 (leE x.1.1 x.1.2.2.2.1 + (1 : Int)) then (↑(List.length x.1.1) : Int)
                    else IntKind.wrap IntKind.i64 (leE x.1.1 x.1.2.2.2.1 + (1 : Int))) ==
                    (↑(List.length x.1.1) : Int)) ==
                  false &&
                true) =
              true →
            ((0 : Int) ≤
                if (↑(List.length x.1.1) : Int) < IntKind.wrap IntKind.i64 (leE x.1.1 x.1.2.2.2.1 + (1 : Int)) then (↑(List.length x.1.1) : Int)
                else IntKind.wrap IntKind.i64 (leE x.1.1 x.1.2.2.2.1 + (1 : Int))) ∧
              (if (↑(List.length x.1.1) : Int) < IntKind.wrap IntKind.i64 (leE x.1.1 x.1.2.2.2.1 + (1 : Int)) then (↑(List.length x.1.1) : Int)
                else IntKind.wrap IntKind.i64 (leE x.1.1 x.1.2.2.2.1 + (1 : Int))) ≤
                (↑(List.length x.1.1) : Int))
          (Tree.br
            (bif
                (if (↑(List.length x.1.1) : Int) < IntKind.wrap IntKind.i64 (leE x.1.1 x.1.2.2.2.1 + (1 : Int)) then (↑(List.length x.1.1) : Int)
                  else IntKind.wrap IntKind.i64 (leE x.1.1 x.1.2.2.2.1 + (1 : Int))) ==
                  (↑(List.length x.1.1) : Int) then
              true
            else
              beginsF
                (List.drop
                  (Int.toNat
                    (if (↑(List.length x.1.1) : Int) < IntKind.wrap IntKind.i64 (leE x.1.1 x.1.2.2.2.1 + (1 : Int)) then (↑(List.length x.1.1) : Int)
                    else IntKind.wrap IntKind.i64 (leE x.1.1 x.1.2.2.2.1 + (1 : Int))))
                  x.1.1))
            (Tree.need
              ((0 : Int) ≤ x.1.2.2.2.2.1 ∧
                (x.1.2.2.2.2.1 ≤
                    if (↑(List.length x.1.1) : Int) < IntKind.wrap IntKind.i64 (leE x.1.1 x.1.2.2.2.1 + (1 : Int)) then (↑(List.length x.1.1) : Int)
                    else IntKind.wrap IntKind.i64 (leE x.1.1 x.1.2.2.2.1 + (1 : Int))) ∧
                  (if (↑(List.length x.1.1) : Int) < IntKind.wrap IntKind.i64 (leE x.1.1 x.1.2.2.2.1 + (1 : Int)) then (↑(List.length x.1.1) : Int)
                    else IntKind.wrap IntKind.i64 (leE x.1.1 x.1.2.2.2.1 + (1 : Int))) ≤
                    (↑(List.length x.1.1) : Int))
              (Tree.br
                ((parseF
                        (List.drop (Int.toNat x.1.2.2.2.2.1)
                          (List.take
                            (Int.toNat
                              (if (↑(List.length x.1.1) : Int) < IntKind.wrap IntKind.i64 (leE x.1.1 x.1.2.2.2.1 + (1 : Int)) then (↑(List.length x.1.1) : Int)
                              else IntKind.wrap IntKind.i64 (leE x.1.1 x.1.2.2.2.1 + (1 : Int))))
                            x.1.1))).2.2 !=
                  (0 : Int))
                (Tree.leaf
                  (Ex.ret,
                    some
                      ((x.1.1, IntKind.wrap IntKind.i64 ((↑(List.length x.2.1) : Int) + (1 : Int)),
                          (parseF
                                (List.drop (Int.toNat x.1.2.2.2.2.1)
                                  (List.take
                                    (Int.toNat
                                      (if (↑(List.length x.1.1) : Int) < IntKind.wrap IntKind.i64 (leE x.1.1 x.1.2.2.2.1 + (1 : Int)) then (↑(List.length x.1.1) : Int)
                                      else IntKind.wrap IntKind.i64 (leE x.1.1 x.1.2.2.2.1 + (1 : Int))))
                                    x.1.1))).2.2,
                          x.1.2.2.2.1, x.1.2.2.2.2.1, ()),
                        x.2.1, ())))
                (Tree.need ((List.length x.2.1 + (1 : Nat)) * (112 : Nat) ≤ (140737488355328 : Nat))
                  (Tree.leaf
                    (Ex.normal,
                      some
                        ((x.1.1, x.1.2.1, x.1.2.2.1,
                            if (↑(List.length x.1.1) : Int) < IntKind.wrap IntKind.i64 (leE x.1.1 x.1.2.2.2.1 + (1 : Int)) then (↑(List.length x.1.1) : Int)
                            else IntKind.wrap IntKind.i64 (leE x.1.1 x.1.2.2.2.1 + (1 : Int)),
                            if (↑(List.length x.1.1) : Int) < IntKind.wrap IntKind.i64 (leE x.1.1 x.1.2.2.2.1 + (1 : Int)) then (↑(List.length x.1.1) : Int)
                            else IntKind.wrap IntKind.i64 (leE x.1.1 x.1.2.2.2.1 + (1 : Int)),
                            ()),
                          x.2.1 ++
                            [(parseF
                                  (List.drop (Int.toNat x.1.2.2.2.2.1)
                                    (List.take
                                      (Int.toNat
                                        (if (↑(List.length x.1.1) : Int) < IntKind.wrap IntKind.i64 (leE x.1.1 x.1.2.2.2.1 + (1 : Int)) then (↑(List.length x.1.1) : Int)
                                        else IntKind.wrap IntKind.i64 (leE x.1.1 x.1.2.2.2.1 + (1 : Int))))
                                      x.1.1))).1],
                          ()))))))
            (Tree.leaf
              (Ex.normal,
                some
                  ((x.1.1, x.1.2.1, x.1.2.2.1,
                      if (↑(List.length x.1.1) : Int) < IntKind.wrap IntKind.i64 (leE x.1.1 x.1.2.2.2.1 + (1 : Int)) then (↑(List.length x.1.1) : Int)
                      else IntKind.wrap IntKind.i64 (leE x.1.1 x.1.2.2.2.1 + (1 : Int)),
                      x.1.2.2.2.2.1, ()),
                    x.2.1, ()))))))
      (Tree.leaf (Ex.exit (0 : Nat), some ((x.1.1, x.1.2.1, x.1.2.2.1, x.1.2.2.2.1, x.1.2.2.2.2.1, ()), x.2.1, ())))) := by kernel_rfl
theorem rg_tree : (fun x : List UInt8 => evFn (mkC tys rgG rgL) (fnOf Tryd.prog 91) (resL pgC.args x) pgC.res) =
  (fun x =>
    Tree.br (decide ((↑(List.length x) : Int) > (8000 : Int))) (Tree.leaf ([], (0 : Int), (4 : Int)))
      (Tree.need (rgPre ((x, (0 : Int), (0 : Int), (0 : Int), (0 : Int), PUnit.unit), [], PUnit.unit))
        (Tree.br
          (isRet
            (runF rgStp (rgMu ((x, (0 : Int), (0 : Int), (0 : Int), (0 : Int), PUnit.unit), [], PUnit.unit) + (1 : Nat)) ((x, (0 : Int), (0 : Int), (0 : Int), (0 : Int), PUnit.unit), [], PUnit.unit)).1)
          (Tree.leaf
            ([],
              (runF rgStp (rgMu ((x, (0 : Int), (0 : Int), (0 : Int), (0 : Int), PUnit.unit), [], PUnit.unit) + (1 : Nat))
                        ((x, (0 : Int), (0 : Int), (0 : Int), (0 : Int), PUnit.unit), [], PUnit.unit)).2.1.2.1,
              (runF rgStp (rgMu ((x, (0 : Int), (0 : Int), (0 : Int), (0 : Int), PUnit.unit), [], PUnit.unit) + (1 : Nat))
                          ((x, (0 : Int), (0 : Int), (0 : Int), (0 : Int), PUnit.unit), [], PUnit.unit)).2.1.2.2.1))
          (Tree.br
            (bif
                (paF
                      (runF rgStp (rgMu ((x, (0 : Int), (0 : Int), (0 : Int), (0 : Int), PUnit.unit), [], PUnit.unit) + (1 : Nat))
                              ((x, (0 : Int), (0 : Int), (0 : Int), (0 : Int), PUnit.unit), [], PUnit.unit)).2.2.1).2 !=
                  (0 : Int) then
              true
            else
              !(paF
                      (runF rgStp (rgMu ((x, (0 : Int), (0 : Int), (0 : Int), (0 : Int), PUnit.unit), [], PUnit.unit) + (1 : Nat))
                              ((x, (0 : Int), (0 : Int), (0 : Int), (0 : Int), PUnit.unit), [], PUnit.unit)).2.2.1).1 ==
                  (runF rgStp (rgMu ((x, (0 : Int), (0 : Int), (0 : Int), (0 : Int), PUnit.unit), [], PUnit.unit) + (1 : Nat))
                          ((x, (0 : Int), (0 : Int), (0 : Int), (0 : Int), PUnit.unit), [], PUnit.unit)).2.1.1)
            (Tree.leaf ([], (0 : Int), (3 : Int)))
            (Tree.leaf
              ((runF rgStp (rgMu ((x, (0 : Int), (0 : Int), (0 : Int), (0 : Int), PUnit.unit), [], PUnit.unit) + (1 : Nat))
                        ((x, (0 : Int), (0 : Int), (0 : Int), (0 : Int), PUnit.unit), [], PUnit.unit)).2.2.1,
                (0 : Int), (0 : Int))))))) := by kernel_rfl
theorem le_loop : LoopOK (mkC tys rgG rgL) leD.spec (loopB 2 (bodyOf (fnOf Tryd.prog 91))) :=
  loopF1_ok (id := 2) (D := leD) (fun x => congrFun le_round x) leStp leMu (fun x => (congrArg (out1 2) (le_run x)).symm) leStp_ends fun (x : LeS) hp => by
    refine ⟨?_, fun hn => le_go hp hn⟩
    obtain ⟨⟨s, a, ⟨⟩⟩, ⟨⟩⟩ := x
    obtain ⟨h1, h2, h3⟩ := hp
    simp only at h1 h2 h3
    simp only [Tree.holds, leStp]
    refine ⟨fun h => ?_, fun h => ?_, fun h => by rw [h]; rfl⟩
    · have : a < s.length := by simpa using h
      exact ⟨h1, this⟩
    · rw [h]
      have ha : a < s.length := by
        by_cases ha : a < s.length
        · exact ha
        · rw [decide_eq_false ha] at h; cases h
      rw [i64_id (n := a + 1) (by omega) (by omega)]; rfl
theorem rg_loop : LoopOK (mkC tys rgG rgL) rgD.spec (loopB 0 (bodyOf (fnOf Tryd.prog 91))) :=
  loopF2_ok (id := 0) (D := rgD) (fun x => congrFun rg_round x) rgStp rgMu (fun _ => rfl) rgStp_ends fun (x : RgS) hp => by
    refine ⟨?_, fun hn => rg_go hp hn⟩
    have hP : rgP x = parseF ((x.1.1.take (nxF x.1.1 x.1.2.2.2.1).toNat).drop x.1.2.2.2.2.1.toNat) := rfl
    obtain ⟨⟨s, e, e2, a, f, ⟨⟩⟩, o, ⟨⟩⟩ := x
    obtain ⟨h1, h2, h3, h4, h5⟩ := hp
    simp only at h1 h2 h3 h4 h5 hP
    have hl := le_at (s := s) (a := a) (by omega) h3 (by omega)
    have hw : IntKind.i64.wrap (leE s a + 1) = leE s a + 1 := i64_id (by omega) (by omega)
    have hn : (if (s.length : Int) < leE s a + 1 then (s.length : Int) else leE s a + 1) = nxF s a := rfl
    simp only [Tree.holds, rgStp, hw, hn]
    rw [hP]
    refine ⟨fun h => ?_, fun h => by rw [h]; rfl⟩
    have ha := of_decide_eq_true h
    obtain ⟨n1, n2⟩ := nx_at (s := s) (a := a) (by omega) ha (by omega)
    refine ⟨⟨by show 0 ≤ a; omega, h3, by show s.length ≤ 10000; omega⟩, fun _ => ⟨by omega, n2⟩, fun g => ⟨⟨h1, by omega, n2⟩, fun k => ?_, fun k => ⟨by omega, ?_⟩⟩, fun g => ?_⟩
    · rw [h, g, k, i64_id (n := (o.length : Int) + 1) (by omega) (by omega)]; rfl
    · rw [h, g, k]; rfl
    · rw [h, g]; rfl
theorem rg_ok : CtrOK Tryd.prog 91 pgC :=
  fun_ok (G := rgG) (Λ := rgL) tysOK rgG_ok mixed (by kernel_rfl) (by kernel_rfl) (by kernel_rfl) (by kernel_rfl) (lp_cons rg_loop (lp_cons le_loop lp_nil)) fun (x : List UInt8) hw hp => by
    rw [congrFun rg_tree x]
    have e : pgC.fn x = pgF x := rfl
    rw [e]
    by_cases hx : (x.length : Int) > 8000
    · rw [decide_eq_true hx]
      refine ⟨fun _ => ?_, fun h => by cases h⟩
      unfold pgF
      rw [decide_eq_true hx]; rfl
    rw [decide_eq_false hx]
    have hp2 := rg_pre hx
    refine ⟨fun h => (by cases h), fun _ => ⟨hp2, ?_⟩⟩
    rw [← rg_same hx]
    have es : rgSt x = ((x, (0 : Int), (0 : Int), (0 : Int), (0 : Int), PUnit.unit), [], PUnit.unit) := rfl
    rw [← es]
    generalize runF rgStp _ _ = q
    unfold rgEnd
    have hne : ((paF q.2.2.1).1 != q.2.1.1) = !((paF q.2.2.1).1 == q.2.1.1) := rfl
    rw [hne]
    exact ⟨fun h => by rw [h]; rfl, fun h => ⟨fun g => by rw [h, g]; rfl, fun g => by rw [h, g]; rfl⟩⟩
end Go.Ev.D
