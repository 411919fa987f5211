/- The document's configurations read. -/
import Derived.Test.YtohodbfoeejbjaaDoorTextConfBack11

set_option linter.unusedVariables false
set_option linter.unusedSimpArgs false
namespace Go.Ev.D
open Go.Proofs
def kcutC : Ctr := { args := [.str], res := [.sl .str], pre := some (fun (x : List UInt8) => x.length ≤ 10000), fn := fun (x : List UInt8) => wordsF x }
def kcutD : LoopD where
  prom := [(3, 1003, 9, .str)]
  ts := [(0, .val .str), (3, .tip 1003), (4, .val (.int .i64)), (7, .val (.int .i64)), (8, .val (.int .i64))]
  bs := [(1003, .row 9 .str false)]
  pre := fun (x : KcS) => kcPre x
  out := fun (x : KcS) => out1 0 (runF kcStp (kcMu x + 1) x)
theorem kcut_round : (fun x : KcS => roundOf (mkC tys [] [(0, kcutD.spec)]) kcutD (loopB 0 (bodyOf (fnOf Tryd.prog 150))) x) =
  (fun x =>
    Tree.br (decide (x.1.2.2.2.1 < x.1.2.2.1))
      (Tree.need ((0 : Int) ≤ x.1.2.2.2.1 ∧ x.1.2.2.2.1 < (↑(List.length x.1.1) : Int))
        (Tree.need
          (((↑(UInt8.toNat (List.getD x.1.1 (Int.toNat x.1.2.2.2.1) (0 : UInt8))) : Int) == (32 : Int)) = true → (0 : Int) ≤ x.1.2.1 ∧ x.1.2.1 ≤ x.1.2.2.2.1 ∧ x.1.2.2.2.1 ≤ (↑(List.length x.1.1) : Int))
          (Tree.need (((↑(UInt8.toNat (List.getD x.1.1 (Int.toNat x.1.2.2.2.1) (0 : UInt8))) : Int) == (32 : Int)) = true → (List.length x.2.1 + (1 : Nat)) * (16 : Nat) ≤ (140737488355328 : Nat))
            (Tree.leaf
              (Ex.normal,
                some
                  ((x.1.1, bif (↑(UInt8.toNat (List.getD x.1.1 (Int.toNat x.1.2.2.2.1) (0 : UInt8))) : Int) == (32 : Int) then IntKind.wrap IntKind.i64 (x.1.2.2.2.1 + (1 : Int)) else x.1.2.1, x.1.2.2.1,
                      IntKind.wrap IntKind.i64 (x.1.2.2.2.1 + (1 : Int)), ()),
                    bif (↑(UInt8.toNat (List.getD x.1.1 (Int.toNat x.1.2.2.2.1) (0 : UInt8))) : Int) == (32 : Int) then x.2.1 ++ [List.drop (Int.toNat x.1.2.1) (List.take (Int.toNat x.1.2.2.2.1) x.1.1)]
                    else x.2.1,
                    ()))))))
      (Tree.leaf (Ex.exit (0 : Nat), some ((x.1.1, x.1.2.1, x.1.2.2.1, x.1.2.2.2.1, ()), x.2.1, ())))) := by kernel_rfl
theorem kcut_tree : (fun x : List UInt8 => evFn (mkC tys [] [(0, kcutD.spec)]) (fnOf Tryd.prog 150) (resL kcutC.args x) kcutC.res) =
  (fun x =>
    Tree.need (kcPre ((x, (0 : Int), (↑(List.length x) : Int), (0 : Int), PUnit.unit), [], PUnit.unit))
      (Tree.need
        ((0 : Int) ≤
            (runF kcStp (kcMu ((x, (0 : Int), (↑(List.length x) : Int), (0 : Int), PUnit.unit), [], PUnit.unit) + (1 : Nat))
                      ((x, (0 : Int), (↑(List.length x) : Int), (0 : Int), PUnit.unit), [], PUnit.unit)).2.1.2.1 ∧
          (runF kcStp (kcMu ((x, (0 : Int), (↑(List.length x) : Int), (0 : Int), PUnit.unit), [], PUnit.unit) + (1 : Nat))
                      ((x, (0 : Int), (↑(List.length x) : Int), (0 : Int), PUnit.unit), [], PUnit.unit)).2.1.2.1 ≤
            (↑(List.length
                  (runF kcStp (kcMu ((x, (0 : Int), (↑(List.length x) : Int), (0 : Int), PUnit.unit), [], PUnit.unit) + (1 : Nat))
                          ((x, (0 : Int), (↑(List.length x) : Int), (0 : Int), PUnit.unit), [], PUnit.unit)).2.1.1) :
              Int))
        (Tree.need
          ((List.length
                  (runF kcStp (kcMu ((x, (0 : Int), (↑(List.length x) : Int), (0 : Int), PUnit.unit), [], PUnit.unit) + (1 : Nat))
                          ((x, (0 : Int), (↑(List.length x) : Int), (0 : Int), PUnit.unit), [], PUnit.unit)).2.2.1 +
                (1 : Nat)) *
              (16 : Nat) ≤
            (140737488355328 : Nat))
          (Tree.leaf
            ((runF kcStp (kcMu ((x, (0 : Int), (↑(List.length x) : Int), (0 : Int), PUnit.unit), [], PUnit.unit) + (1 : Nat))
                      ((x, (0 : Int), (↑(List.length x) : Int), (0 : Int), PUnit.unit), [], PUnit.unit)).2.2.1 ++
              [List.drop
                  (Int.toNat
                    (runF kcStp (kcMu ((x, (0 : Int), (↑(List.length x) : Int), (0 : Int), PUnit.unit), [], PUnit.unit) + (1 : Nat))
                              ((x, (0 : Int), (↑(List.length x) : Int), (0 : Int), PUnit.unit), [], PUnit.unit)).2.1.2.1)
                  (runF kcStp (kcMu ((x, (0 : Int), (↑(List.length x) : Int), (0 : Int), PUnit.unit), [], PUnit.unit) + (1 : Nat))
                          ((x, (0 : Int), (↑(List.length x) : Int), (0 : Int), PUnit.unit), [], PUnit.unit)).2.1.1]))))) := by kernel_rfl
def numD : LoopD where
  prom := []
  ts := [(0, .val .str), (2, .val (.int .i64)), (3, .val (.int .i64)), (6, .val (.int .i64)), (7, .val (.int .i64))]
  bs := []
  pre := fun (x : PnS) => pnPre x
  out := fun (x : PnS) => out2 0 (runF pnStp (pnMu x + 1) x)
def rnumG : List (Nat × Ctr) := [(131, pcdC 19)]
def rnumC : Ctr := { args := [.str], res := [.int .i64], pre := none, fn := fun (x : List UInt8) => numP x }
theorem rnum_round : (fun x : PnS => roundOf (mkC tys rnumG [(0, numD.spec)]) numD (loopB 0 (bodyOf (fnOf Tryd.prog 151))) x) =
  (fun x =>
    Tree.br (decide (x.1.2.2.2.2.1 < x.1.2.2.2.1))
      (Tree.need ((0 : Int) ≤ x.1.2.2.2.2.1 ∧ x.1.2.2.2.2.1 < (↑(List.length x.1.1) : Int))
        (Tree.need
          ((decide ((↑(UInt8.toNat (List.getD x.1.1 (Int.toNat x.1.2.2.2.2.1) (0 : UInt8))) : Int) < (48 : Int)) == false && true) = true →
            (0 : Int) ≤ x.1.2.2.2.2.1 ∧ x.1.2.2.2.2.1 < (↑(List.length x.1.1) : Int))
          (Tree.br
            (bif
                bif decide ((↑(UInt8.toNat (List.getD x.1.1 (Int.toNat x.1.2.2.2.2.1) (0 : UInt8))) : Int) < (48 : Int)) then true
                else decide ((↑(UInt8.toNat (List.getD x.1.1 (Int.toNat x.1.2.2.2.2.1) (0 : UInt8))) : Int) > (57 : Int)) then
              true
            else decide (x.1.2.2.1 > (1073741824 : Int)))
            (Tree.leaf (Ex.ret, some ((x.1.1, (-1 : Int), x.1.2.2.1, x.1.2.2.2.1, x.1.2.2.2.2.1, ()), ())))
            (Tree.need ((0 : Int) ≤ x.1.2.2.2.2.1 ∧ x.1.2.2.2.2.1 < (↑(List.length x.1.1) : Int))
              (Tree.leaf
                (Ex.normal,
                  some
                    ((x.1.1, x.1.2.1,
                        IntKind.wrap IntKind.i64
                          (IntKind.wrap IntKind.i64 ((10 : Int) * x.1.2.2.1) +
                            IntKind.wrap IntKind.i64 (IntKind.wrap IntKind.u8 ((↑(UInt8.toNat (List.getD x.1.1 (Int.toNat x.1.2.2.2.2.1) (0 : UInt8))) : Int) - (48 : Int)))),
                        x.1.2.2.2.1, IntKind.wrap IntKind.i64 (x.1.2.2.2.2.1 + (1 : Int)), ()),
                      ())))))))
      (Tree.leaf (Ex.exit (0 : Nat), some ((x.1.1, x.1.2.1, x.1.2.2.1, x.1.2.2.2.1, x.1.2.2.2.2.1, ()), ())))) := by kernel_rfl
theorem rnum_tree : (fun x : List UInt8 => evFn (mkC tys rnumG [(0, numD.spec)]) (fnOf Tryd.prog 151) (resL rnumC.args x) rnumC.res) =
  (fun x =>
    Tree.need (pnPre ((x, (0 : Int), (0 : Int), (↑(List.length x) : Int), (0 : Int), PUnit.unit), PUnit.unit))
      (Tree.br
        (isRet
          (runF pnStp (pnMu ((x, (0 : Int), (0 : Int), (↑(List.length x) : Int), (0 : Int), PUnit.unit), PUnit.unit) + (1 : Nat))
              ((x, (0 : Int), (0 : Int), (↑(List.length x) : Int), (0 : Int), PUnit.unit), PUnit.unit)).1)
        (Tree.leaf
          (runF pnStp (pnMu ((x, (0 : Int), (0 : Int), (↑(List.length x) : Int), (0 : Int), PUnit.unit), PUnit.unit) + (1 : Nat))
                    ((x, (0 : Int), (0 : Int), (↑(List.length x) : Int), (0 : Int), PUnit.unit), PUnit.unit)).2.1.2.1)
        (Tree.need
          ((((runF pnStp (pnMu ((x, (0 : Int), (0 : Int), (↑(List.length x) : Int), (0 : Int), PUnit.unit), PUnit.unit) + (1 : Nat))
                            ((x, (0 : Int), (0 : Int), (↑(List.length x) : Int), (0 : Int), PUnit.unit), PUnit.unit)).2.1.1 ==
                    []) ==
                  false &&
                true) =
              true →
            (runF pnStp (pnMu ((x, (0 : Int), (0 : Int), (↑(List.length x) : Int), (0 : Int), PUnit.unit), PUnit.unit) + (1 : Nat))
                          ((x, (0 : Int), (0 : Int), (↑(List.length x) : Int), (0 : Int), PUnit.unit), PUnit.unit)).2.1.2.2.1 <
              (10000000000000000000 : Int))
          (Tree.br
            (bif
                (runF pnStp (pnMu ((x, (0 : Int), (0 : Int), (↑(List.length x) : Int), (0 : Int), PUnit.unit), PUnit.unit) + (1 : Nat))
                          ((x, (0 : Int), (0 : Int), (↑(List.length x) : Int), (0 : Int), PUnit.unit), PUnit.unit)).2.1.1 ==
                  [] then
              true
            else
              !natT
                    (Int.toNat
                      (runF pnStp (pnMu ((x, (0 : Int), (0 : Int), (↑(List.length x) : Int), (0 : Int), PUnit.unit), PUnit.unit) + (1 : Nat))
                                  ((x, (0 : Int), (0 : Int), (↑(List.length x) : Int), (0 : Int), PUnit.unit), PUnit.unit)).2.1.2.2.1) ==
                  (runF pnStp (pnMu ((x, (0 : Int), (0 : Int), (↑(List.length x) : Int), (0 : Int), PUnit.unit), PUnit.unit) + (1 : Nat))
                          ((x, (0 : Int), (0 : Int), (↑(List.length x) : Int), (0 : Int), PUnit.unit), PUnit.unit)).2.1.1)
            (Tree.leaf (-1 : Int))
            (Tree.leaf
              (runF pnStp (pnMu ((x, (0 : Int), (0 : Int), (↑(List.length x) : Int), (0 : Int), PUnit.unit), PUnit.unit) + (1 : Nat))
                          ((x, (0 : Int), (0 : Int), (↑(List.length x) : Int), (0 : Int), PUnit.unit), PUnit.unit)).2.1.2.2.1))))) := by kernel_rfl
def rnodeG : List (Nat × Ctr) := [(122, nparseC), (123, rcountC), (105, rlistC)]
def rnodeC : Ctr := { args := [.str], res := [.int .i64], pre := none, fn := fun (x : List UInt8) => nodeR x }
theorem rnode_tree : (fun x : List UInt8 => evFn (mkC tys rnodeG []) (fnOf Tryd.prog 152) (resL rnodeC.args x) rnodeC.res) =
  (fun x =>
    Tree.br (bif (nparseF x).2 != (0 : Int) then true else (↑(List.length (elemsF (nparseF x).1 (16 : Nat))) : Int) != (1 : Int)) (Tree.leaf (-1 : Int))
      (Tree.need ((0 : Int) ≤ (0 : Int) ∧ (0 : Int) < (↑(List.length (elemsF (nparseF x).1 (16 : Nat))) : Int)) (Tree.leaf (List.getD (elemsF (nparseF x).1 (16 : Nat)) (0 : Nat) (0 : Int))))) := by kernel_rfl
def rlineG : List (Nat × Ctr) := [(150, kcutC), (151, rnumC), (152, rnodeC), (43, rcsetC)]
def lnD : LoopD where
  prom := []
  ts := [(6, .val (.sl .str)), (7, .ptr 7 (.arr 4 (.int .i64))), (8, .val (.int .i64))]
  bs := [(7, .var (.arr 4 (.int .i64)))]
  pre := fun (x : LnS) => lnPre x
  out := fun (x : LnS) => out1 0 (runF lnStp (lnMu x + 1) x)
def rlineC2 : Ctr := { args := [gConf, .str], res := [gConf, .bool], pre := some linePre, fn := fun (x : DConf × List UInt8) => lineR x.1 (wordsF x.2) }
theorem ln_round : (fun x : LnS => roundOf (mkC tys rlineG [(0, lnD.spec)]) lnD (loopB 0 (bodyOf (fnOf Tryd.prog 134))) x) =
  (fun x =>
    Tree.br (bif decide (x.1.2.1 < (↑(List.length x.1.1) : Int)) then decide (x.1.2.1 ≤ (4 : Int)) else false)
      (Tree.need ((0 : Int) ≤ x.1.2.1 ∧ x.1.2.1 < (↑(List.length x.1.1) : Int))
        (Tree.need ((0 : Int) ≤ IntKind.wrap IntKind.i64 (x.1.2.1 - (1 : Int)) ∧ IntKind.wrap IntKind.i64 (x.1.2.1 - (1 : Int)) < (4 : Int))
          (Tree.leaf
            (Ex.normal,
              some
                ((x.1.1, IntKind.wrap IntKind.i64 (x.1.2.1 + (1 : Int)), ()), List.set x.2.1 (Int.toNat (IntKind.wrap IntKind.i64 (x.1.2.1 - (1 : Int)))) (numP (List.getD x.1.1 (Int.toNat x.1.2.1) [])),
                  ())))))
      (Tree.leaf (Ex.exit (0 : Nat), some ((x.1.1, x.1.2.1, ()), x.2.1, ())))) := by kernel_rfl
theorem rline2_tree : (fun x : DConf × List UInt8 => evFn (mkC tys rlineG [(0, lnD.spec)]) (fnOf Tryd.prog 134) (resL rlineC2.args x) rlineC2.res) =
  (fun x =>
    Tree.need (List.length x.2 ≤ (10000 : Nat))
      (Tree.need (lnPre ((wordsF x.2, (1 : Int), PUnit.unit), List.replicate (4 : Nat) (0 : Int), PUnit.unit))
        (Tree.need
          ((0 : Int) ≤ (0 : Int) ∧
            (0 : Int) <
              (↑(List.length
                    (runF lnStp (lnMu ((wordsF x.2, (1 : Int), PUnit.unit), List.replicate (4 : Nat) (0 : Int), PUnit.unit) + (1 : Nat))
                            ((wordsF x.2, (1 : Int), PUnit.unit), List.replicate (4 : Nat) (0 : Int), PUnit.unit)).2.1.1) :
                Int))
          (Tree.br
            (bif
                List.getD
                    (runF lnStp (lnMu ((wordsF x.2, (1 : Int), PUnit.unit), List.replicate (4 : Nat) (0 : Int), PUnit.unit) + (1 : Nat))
                            ((wordsF x.2, (1 : Int), PUnit.unit), List.replicate (4 : Nat) (0 : Int), PUnit.unit)).2.1.1
                    (0 : Nat) [] ==
                  [(110 : UInt8), (111 : UInt8), (100 : UInt8), (101 : UInt8)] then
              (↑(List.length
                      (runF lnStp (lnMu ((wordsF x.2, (1 : Int), PUnit.unit), List.replicate (4 : Nat) (0 : Int), PUnit.unit) + (1 : Nat))
                              ((wordsF x.2, (1 : Int), PUnit.unit), List.replicate (4 : Nat) (0 : Int), PUnit.unit)).2.1.1) :
                  Int) ==
                (2 : Int)
            else false)
            (Tree.need
              ((0 : Int) ≤ (1 : Int) ∧
                (1 : Int) <
                  (↑(List.length
                        (runF lnStp (lnMu ((wordsF x.2, (1 : Int), PUnit.unit), List.replicate (4 : Nat) (0 : Int), PUnit.unit) + (1 : Nat))
                                ((wordsF x.2, (1 : Int), PUnit.unit), List.replicate (4 : Nat) (0 : Int), PUnit.unit)).2.1.1) :
                    Int))
              (Tree.leaf
                ((nodeR
                      (List.getD
                        (runF lnStp (lnMu ((wordsF x.2, (1 : Int), PUnit.unit), List.replicate (4 : Nat) (0 : Int), PUnit.unit) + (1 : Nat))
                                ((wordsF x.2, (1 : Int), PUnit.unit), List.replicate (4 : Nat) (0 : Int), PUnit.unit)).2.1.1
                        (1 : Nat) []),
                    x.1.2),
                  decide
                    (nodeR
                        (List.getD
                          (runF lnStp (lnMu ((wordsF x.2, (1 : Int), PUnit.unit), List.replicate (4 : Nat) (0 : Int), PUnit.unit) + (1 : Nat))
                                  ((wordsF x.2, (1 : Int), PUnit.unit), List.replicate (4 : Nat) (0 : Int), PUnit.unit)).2.1.1
                          (1 : Nat) []) ≥
                      (0 : Int)))))
            (Tree.need
              ((0 : Int) ≤ (0 : Int) ∧
                (0 : Int) <
                  (↑(List.length
                        (runF lnStp (lnMu ((wordsF x.2, (1 : Int), PUnit.unit), List.replicate (4 : Nat) (0 : Int), PUnit.unit) + (1 : Nat))
                                ((wordsF x.2, (1 : Int), PUnit.unit), List.replicate (4 : Nat) (0 : Int), PUnit.unit)).2.1.1) :
                    Int))
              (Tree.br
                (bif
                    List.getD
                        (runF lnStp (lnMu ((wordsF x.2, (1 : Int), PUnit.unit), List.replicate (4 : Nat) (0 : Int), PUnit.unit) + (1 : Nat))
                                ((wordsF x.2, (1 : Int), PUnit.unit), List.replicate (4 : Nat) (0 : Int), PUnit.unit)).2.1.1
                        (0 : Nat) [] ==
                      [(114 : UInt8), (117 : UInt8), (108 : UInt8), (101 : UInt8), (115 : UInt8)] then
                  (↑(List.length
                          (runF lnStp (lnMu ((wordsF x.2, (1 : Int), PUnit.unit), List.replicate (4 : Nat) (0 : Int), PUnit.unit) + (1 : Nat))
                                  ((wordsF x.2, (1 : Int), PUnit.unit), List.replicate (4 : Nat) (0 : Int), PUnit.unit)).2.1.1) :
                      Int) ==
                    (5 : Int)
                else false)
                (Tree.leaf
                  ((x.1.1,
                      (List.getD
                          (runF lnStp (lnMu ((wordsF x.2, (1 : Int), PUnit.unit), List.replicate (4 : Nat) (0 : Int), PUnit.unit) + (1 : Nat))
                                  ((wordsF x.2, (1 : Int), PUnit.unit), List.replicate (4 : Nat) (0 : Int), PUnit.unit)).2.2.1
                          (0 : Nat) (0 : Int),
                        List.getD
                          (runF lnStp (lnMu ((wordsF x.2, (1 : Int), PUnit.unit), List.replicate (4 : Nat) (0 : Int), PUnit.unit) + (1 : Nat))
                                  ((wordsF x.2, (1 : Int), PUnit.unit), List.replicate (4 : Nat) (0 : Int), PUnit.unit)).2.2.1
                          (1 : Nat) (0 : Int),
                        List.getD
                          (runF lnStp (lnMu ((wordsF x.2, (1 : Int), PUnit.unit), List.replicate (4 : Nat) (0 : Int), PUnit.unit) + (1 : Nat))
                                  ((wordsF x.2, (1 : Int), PUnit.unit), List.replicate (4 : Nat) (0 : Int), PUnit.unit)).2.2.1
                          (2 : Nat) (0 : Int),
                        List.getD
                          (runF lnStp (lnMu ((wordsF x.2, (1 : Int), PUnit.unit), List.replicate (4 : Nat) (0 : Int), PUnit.unit) + (1 : Nat))
                                  ((wordsF x.2, (1 : Int), PUnit.unit), List.replicate (4 : Nat) (0 : Int), PUnit.unit)).2.2.1
                          (3 : Nat) (0 : Int)),
                      x.1.2.2),
                    decide
                      ((if
                            List.getD
                                (runF lnStp (lnMu ((wordsF x.2, (1 : Int), PUnit.unit), List.replicate (4 : Nat) (0 : Int), PUnit.unit) + (1 : Nat))
                                        ((wordsF x.2, (1 : Int), PUnit.unit), List.replicate (4 : Nat) (0 : Int), PUnit.unit)).2.2.1
                                (3 : Nat) (0 : Int) <
                              if
                                  List.getD
                                      (runF lnStp (lnMu ((wordsF x.2, (1 : Int), PUnit.unit), List.replicate (4 : Nat) (0 : Int), PUnit.unit) + (1 : Nat))
                                              ((wordsF x.2, (1 : Int), PUnit.unit), List.replicate (4 : Nat) (0 : Int), PUnit.unit)).2.2.1
                                      (2 : Nat) (0 : Int) <
                                    if
                                        List.getD
                                            (runF lnStp (lnMu ((wordsF x.2, (1 : Int), PUnit.unit), List.replicate (4 : Nat) (0 : Int), PUnit.unit) + (1 : Nat))
                                                    ((wordsF x.2, (1 : Int), PUnit.unit), List.replicate (4 : Nat) (0 : Int), PUnit.unit)).2.2.1
                                            (1 : Nat) (0 : Int) <
                                          List.getD
                                            (runF lnStp (lnMu ((wordsF x.2, (1 : Int), PUnit.unit), List.replicate (4 : Nat) (0 : Int), PUnit.unit) + (1 : Nat))
                                                    ((wordsF x.2, (1 : Int), PUnit.unit), List.replicate (4 : Nat) (0 : Int), PUnit.unit)).2.2.1
                                            (0 : Nat) (0 : Int) then
                                      List.getD
                                        (runF lnStp (lnMu ((wordsF x.2, (1 : Int), PUnit.unit), List.replicate (4 : Nat) (0 : Int), PUnit.unit) + (1 : Nat))
                                                ((wordsF x.2, (1 : Int), PUnit.unit), List.replicate (4 : Nat) (0 : Int), PUnit.unit)).2.2.1
                                        (1 : Nat) (0 : Int)
                                    else
                                      List.getD
                                        (runF lnStp (lnMu ((wordsF x.2, (1 : Int), PUnit.unit), List.replicate (4 : Nat) (0 : Int), PUnit.unit) + (1 : Nat))
                                                ((wordsF x.2, (1 : Int), PUnit.unit), List.replicate (4 : Nat) (0 : Int), PUnit.unit)).2.2.1
                                        (0 : Nat) (0 : Int) then
                                List.getD
                                  (runF lnStp (lnMu ((wordsF x.2, (1 : Int), PUnit.unit), List.replicate (4 : Nat) (0 : Int), PUnit.unit) + (1 : Nat))
                                          ((wordsF x.2, (1 : Int), PUnit.unit), List.replicate (4 : Nat) (0 : Int), PUnit.unit)).2.2.1
                                  (2 : Nat) (0 : Int)
                              else
                                if
                                    List.getD
                                        (runF lnStp (lnMu ((wordsF x.2, (1 : Int), PUnit.unit), List.replicate (4 : Nat) (0 : Int), PUnit.unit) + (1 : Nat))
                                                ((wordsF x.2, (1 : Int), PUnit.unit), List.replicate (4 : Nat) (0 : Int), PUnit.unit)).2.2.1
                                        (1 : Nat) (0 : Int) <
                                      List.getD
                                        (runF lnStp (lnMu ((wordsF x.2, (1 : Int), PUnit.unit), List.replicate (4 : Nat) (0 : Int), PUnit.unit) + (1 : Nat))
                                                ((wordsF x.2, (1 : Int), PUnit.unit), List.replicate (4 : Nat) (0 : Int), PUnit.unit)).2.2.1
                                        (0 : Nat) (0 : Int) then
                                  List.getD
                                    (runF lnStp (lnMu ((wordsF x.2, (1 : Int), PUnit.unit), List.replicate (4 : Nat) (0 : Int), PUnit.unit) + (1 : Nat))
                                            ((wordsF x.2, (1 : Int), PUnit.unit), List.replicate (4 : Nat) (0 : Int), PUnit.unit)).2.2.1
                                    (1 : Nat) (0 : Int)
                                else
                                  List.getD
                                    (runF lnStp (lnMu ((wordsF x.2, (1 : Int), PUnit.unit), List.replicate (4 : Nat) (0 : Int), PUnit.unit) + (1 : Nat))
                                            ((wordsF x.2, (1 : Int), PUnit.unit), List.replicate (4 : Nat) (0 : Int), PUnit.unit)).2.2.1
                                    (0 : Nat) (0 : Int) then
                          List.getD
                            (runF lnStp (lnMu ((wordsF x.2, (1 : Int), PUnit.unit), List.replicate (4 : Nat) (0 : Int), PUnit.unit) + (1 : Nat))
                                    ((wordsF x.2, (1 : Int), PUnit.unit), List.replicate (4 : Nat) (0 : Int), PUnit.unit)).2.2.1
                            (3 : Nat) (0 : Int)
                        else
                          if
                              List.getD
                                  (runF lnStp (lnMu ((wordsF x.2, (1 : Int), PUnit.unit), List.replicate (4 : Nat) (0 : Int), PUnit.unit) + (1 : Nat))
                                          ((wordsF x.2, (1 : Int), PUnit.unit), List.replicate (4 : Nat) (0 : Int), PUnit.unit)).2.2.1
                                  (2 : Nat) (0 : Int) <
                                if
                                    List.getD
                                        (runF lnStp (lnMu ((wordsF x.2, (1 : Int), PUnit.unit), List.replicate (4 : Nat) (0 : Int), PUnit.unit) + (1 : Nat))
                                                ((wordsF x.2, (1 : Int), PUnit.unit), List.replicate (4 : Nat) (0 : Int), PUnit.unit)).2.2.1
                                        (1 : Nat) (0 : Int) <
                                      List.getD
                                        (runF lnStp (lnMu ((wordsF x.2, (1 : Int), PUnit.unit), List.replicate (4 : Nat) (0 : Int), PUnit.unit) + (1 : Nat))
                                                ((wordsF x.2, (1 : Int), PUnit.unit), List.replicate (4 : Nat) (0 : Int), PUnit.unit)).2.2.1
                                        (0 : Nat) (0 : Int) then
                                  List.getD
                                    (runF lnStp (lnMu ((wordsF x.2, (1 : Int), PUnit.unit), List.replicate (4 : Nat) (0 : Int), PUnit.unit) + (1 : Nat))
                                            ((wordsF x.2, (1 : Int), PUnit.unit), List.replicate (4 : Nat) (0 : Int), PUnit.unit)).2.2.1
                                    (1 : Nat) (0 : Int)
                                else
                                  List.getD
                                    (runF lnStp (lnMu ((wordsF x.2, (1 : Int), PUnit.unit), List.replicate (4 : Nat) (0 : Int), PUnit.unit) + (1 : Nat))
                                            ((wordsF x.2, (1 : Int), PUnit.unit), List.replicate (4 : Nat) (0 : Int), PUnit.unit)).2.2.1
                                    (0 : Nat) (0 : Int) then
                            List.getD
                              (runF lnStp (lnMu ((wordsF x.2, (1 : Int), PUnit.unit), List.replicate (4 : Nat) (0 : Int), PUnit.unit) + (1 : Nat))
                                      ((wordsF x.2, (1 : Int), PUnit.unit), List.replicate (4 : Nat) (0 : Int), PUnit.unit)).2.2.1
                              (2 : Nat) (0 : Int)
                          else
                            if
                                List.getD
                                    (runF lnStp (lnMu ((wordsF x.2, (1 : Int), PUnit.unit), List.replicate (4 : Nat) (0 : Int), PUnit.unit) + (1 : Nat))
                                            ((wordsF x.2, (1 : Int), PUnit.unit), List.replicate (4 : Nat) (0 : Int), PUnit.unit)).2.2.1
                                    (1 : Nat) (0 : Int) <
                                  List.getD
                                    (runF lnStp (lnMu ((wordsF x.2, (1 : Int), PUnit.unit), List.replicate (4 : Nat) (0 : Int), PUnit.unit) + (1 : Nat))
                                            ((wordsF x.2, (1 : Int), PUnit.unit), List.replicate (4 : Nat) (0 : Int), PUnit.unit)).2.2.1
                                    (0 : Nat) (0 : Int) then
                              List.getD
                                (runF lnStp (lnMu ((wordsF x.2, (1 : Int), PUnit.unit), List.replicate (4 : Nat) (0 : Int), PUnit.unit) + (1 : Nat))
                                        ((wordsF x.2, (1 : Int), PUnit.unit), List.replicate (4 : Nat) (0 : Int), PUnit.unit)).2.2.1
                                (1 : Nat) (0 : Int)
                            else
                              List.getD
                                (runF lnStp (lnMu ((wordsF x.2, (1 : Int), PUnit.unit), List.replicate (4 : Nat) (0 : Int), PUnit.unit) + (1 : Nat))
                                        ((wordsF x.2, (1 : Int), PUnit.unit), List.replicate (4 : Nat) (0 : Int), PUnit.unit)).2.2.1
                                (0 : Nat) (0 : Int)) ≥
                        (0 : Int))))
                (Tree.need
                  ((0 : Int) ≤ (0 : Int) ∧
                    (0 : Int) <
                      (↑(List.length
                            (runF lnStp (lnMu ((wordsF x.2, (1 : Int), PUnit.unit), List.replicate (4 : Nat) (0 : Int), PUnit.unit) + (1 : Nat))
                                    ((wordsF x.2, (1 : Int), PUnit.unit), List.replicate (4 : Nat) (0 : Int), PUnit.unit)).2.1.1) :
                        Int))
                  (Tree.br
                    (bif
                        bif
                            bif
                                List.getD
                                    (runF lnStp (lnMu ((wordsF x.2, (1 : Int), PUnit.unit), List.replicate (4 : Nat) (0 : Int), PUnit.unit) + (1 : Nat))
                                            ((wordsF x.2, (1 : Int), PUnit.unit), List.replicate (4 : Nat) (0 : Int), PUnit.unit)).2.1.1
                                    (0 : Nat) [] ==
                                  [(108 : UInt8), (105 : UInt8), (110 : UInt8), (107 : UInt8)] then
                              (↑(List.length
                                      (runF lnStp (lnMu ((wordsF x.2, (1 : Int), PUnit.unit), List.replicate (4 : Nat) (0 : Int), PUnit.unit) + (1 : Nat))
                                              ((wordsF x.2, (1 : Int), PUnit.unit), List.replicate (4 : Nat) (0 : Int), PUnit.unit)).2.1.1) :
                                  Int) ==
                                (3 : Int)
                            else false then
                          decide
                            (List.getD
                                (runF lnStp (lnMu ((wordsF x.2, (1 : Int), PUnit.unit), List.replicate (4 : Nat) (0 : Int), PUnit.unit) + (1 : Nat))
                                        ((wordsF x.2, (1 : Int), PUnit.unit), List.replicate (4 : Nat) (0 : Int), PUnit.unit)).2.2.1
                                (1 : Nat) (0 : Int) ≥
                              (0 : Int))
                        else false then
                      decide
                        (List.getD
                            (runF lnStp (lnMu ((wordsF x.2, (1 : Int), PUnit.unit), List.replicate (4 : Nat) (0 : Int), PUnit.unit) + (1 : Nat))
                                    ((wordsF x.2, (1 : Int), PUnit.unit), List.replicate (4 : Nat) (0 : Int), PUnit.unit)).2.2.1
                            (1 : Nat) (0 : Int) ≤
                          (65536 : Int))
                    else false)
                    (Tree.need
                      ((0 : Int) ≤ (1 : Int) ∧
                        (1 : Int) <
                          (↑(List.length
                                (runF lnStp (lnMu ((wordsF x.2, (1 : Int), PUnit.unit), List.replicate (4 : Nat) (0 : Int), PUnit.unit) + (1 : Nat))
                                        ((wordsF x.2, (1 : Int), PUnit.unit), List.replicate (4 : Nat) (0 : Int), PUnit.unit)).2.1.1) :
                            Int))
                      (Tree.leaf
                        ((x.1.1, x.1.2.1,
                            (csetF x.1.2.2
                                (nodeR
                                  (List.getD
                                    (runF lnStp (lnMu ((wordsF x.2, (1 : Int), PUnit.unit), List.replicate (4 : Nat) (0 : Int), PUnit.unit) + (1 : Nat))
                                            ((wordsF x.2, (1 : Int), PUnit.unit), List.replicate (4 : Nat) (0 : Int), PUnit.unit)).2.1.1
                                    (1 : Nat) []))
                                (IntKind.wrap IntKind.u32
                                  (List.getD
                                    (runF lnStp (lnMu ((wordsF x.2, (1 : Int), PUnit.unit), List.replicate (4 : Nat) (0 : Int), PUnit.unit) + (1 : Nat))
                                            ((wordsF x.2, (1 : Int), PUnit.unit), List.replicate (4 : Nat) (0 : Int), PUnit.unit)).2.2.1
                                    (1 : Nat) (0 : Int)))).1),
                          (csetF x.1.2.2
                                (nodeR
                                  (List.getD
                                    (runF lnStp (lnMu ((wordsF x.2, (1 : Int), PUnit.unit), List.replicate (4 : Nat) (0 : Int), PUnit.unit) + (1 : Nat))
                                            ((wordsF x.2, (1 : Int), PUnit.unit), List.replicate (4 : Nat) (0 : Int), PUnit.unit)).2.1.1
                                    (1 : Nat) []))
                                (IntKind.wrap IntKind.u32
                                  (List.getD
                                    (runF lnStp (lnMu ((wordsF x.2, (1 : Int), PUnit.unit), List.replicate (4 : Nat) (0 : Int), PUnit.unit) + (1 : Nat))
                                            ((wordsF x.2, (1 : Int), PUnit.unit), List.replicate (4 : Nat) (0 : Int), PUnit.unit)).2.2.1
                                    (1 : Nat) (0 : Int)))).2 ==
                            (0 : Int))))
                    (Tree.leaf (x.1, false)))))))))) := by kernel_rfl
theorem kcut_loop : LoopOK (mkC tys [] [(0, kcutD.spec)]) kcutD.spec (loopB 0 (bodyOf (fnOf Tryd.prog 150))) :=
  loopF1_ok (id := 0) (D := kcutD) (fun x => congrFun kcut_round x) kcStp kcMu (fun _ => rfl) kcStp_ends fun (x : KcS) hp => by
    refine ⟨?_, fun hn => kc_go hp hn⟩
    obtain ⟨⟨s, a, len, i, ⟨⟩⟩, out, ⟨⟩⟩ := x
    obtain ⟨h1, h2, h3, h4, h5, h6⟩ := hp
    simp only at h1 h2 h3 h4 h5 h6
    have hb : kcB ((s, a, len, i, PUnit.unit), out, PUnit.unit) = ((s.getD i.toNat 0).toNat : Int) := rfl
    simp only [Tree.holds, kcStp, hb]
    generalize (((s.getD i.toNat 0).toNat : Int) == 32) = bb
    refine ⟨fun h => ?_, fun h => by rw [h]; rfl⟩
    have hi := of_decide_eq_true h
    refine ⟨⟨by omega, by omega⟩, fun _ => ⟨h1, h2, by omega⟩, fun _ => by omega, ?_⟩
    rw [h, i64_id (n := i + 1) (by omega) (by omega)]
    cases bb <;> rfl
theorem kcut_ok : CtrOK Tryd.prog 150 kcutC :=
  fun_ok (G := []) (Λ := [(0, kcutD.spec)]) tysOK ctrs_nil mixed (by kernel_rfl) (by kernel_rfl) (by kernel_rfl) (by kernel_rfl) (lp_cons kcut_loop lp_nil) fun (x : List UInt8) hw hp => by
    have hx : x.length ≤ 10000 := hp (fun (x : List UInt8) => x.length ≤ 10000) rfl
    rw [congrFun kcut_tree x]
    have e : kcutC.fn x = wordsF x := rfl
    rw [e]
    obtain ⟨hp2, key⟩ := kc_all hx
    unfold kcSt at key
    generalize runF kcStp _ _ = q at key ⊢
    obtain ⟨k1, k2, k3, k4, k5, k6⟩ := key
    simp only [Tree.holds]
    refine ⟨hp2, ⟨k3, by rw [k2]; exact k4⟩, by omega, ?_⟩
    rw [k2]
    exact k6
theorem rnum_loop : LoopOK (mkC tys rnumG [(0, numD.spec)]) numD.spec (loopB 0 (bodyOf (fnOf Tryd.prog 151))) :=
  loopF2_ok (id := 0) (D := numD) (fun x => congrFun rnum_round x) pnStp pnMu (fun _ => rfl) pnStp_ends fun (x : PnS) hp => by
    refine ⟨?_, fun hn => pn_go hp hn⟩
    obtain ⟨⟨s, r, n, len, i, ⟨⟩⟩, ⟨⟩⟩ := x
    obtain ⟨h1, h2, h3, h4, h5, h6⟩ := hp
    simp only at h1 h2 h3 h4 h5 h6
    have hb : pnB ((s, r, n, len, i, PUnit.unit), PUnit.unit) = ((s.getD i.toNat 0).toNat : Int) := rfl
    have hlt := (s.getD i.toNat 0).toNat_lt
    simp only [Tree.holds, pnStp, hb]
    generalize (s.getD i.toNat 0).toNat = c at hlt ⊢
    refine ⟨fun h => ?_, fun h => by rw [h]; rfl⟩
    have hi := of_decide_eq_true h
    refine ⟨⟨h1, by omega⟩, fun _ => ⟨h1, by omega⟩, fun g => ?_, fun g => ⟨⟨h1, by omega⟩, ?_⟩⟩
    · have g' : badD 1073741824 (c : Int) n = true := g
      rw [h, g']; rfl
    · have g' : badD 1073741824 (c : Int) n = false := g
      have := badD_no g'
      rw [h, g', wrap_u8, show ((c : Int) - 48) % 256 = (c : Int) - 48 by omega, Int.mul_comm 10 n, i64_id (n := (c : Int) - 48) (by omega) (by omega), i64_id (n := n * 10) (by omega) (by omega), i64_id (n := n * 10 + ((c : Int) - 48)) (by omega) (by omega), i64_id (n := i + 1) (by omega) (by omega)]
      rfl
theorem rnum_ok : CtrOK Tryd.prog 151 rnumC :=
  fun_ok (G := rnumG) (Λ := [(0, numD.spec)]) tysOK (ctrs_cons (pcd_ok 19) ctrs_nil) mixed (by kernel_rfl) (by kernel_rfl) (by kernel_rfl) (by kernel_rfl) (lp_cons rnum_loop lp_nil) fun (x : List UInt8) hw hp => by
    have hx : x.length ≤ 4611686018427387904 := hw
    rw [congrFun rnum_tree x]
    have e : rnumC.fn x = numP x := rfl
    rw [e]
    obtain ⟨hp2, key⟩ := pn_all hx
    unfold pnSt at key
    generalize runF pnStp _ _ = q at key ⊢
    simp only [Tree.holds]
    cases hg : numGo 1073741824 x 0 with
    | none =>
      rw [hg] at key
      obtain ⟨k1, k2⟩ := key
      refine ⟨hp2, fun _ => by rw [k2, numP_none hg], fun h => ?_⟩
      rw [k1] at h; cases h
    | some n =>
      rw [hg] at key
      obtain ⟨k1, k2, k3⟩ := key
      have hne := numP_end hg
      refine ⟨hp2, fun h => ?_, fun _ => ⟨fun _ => by rw [k2]; exact numP_low hg, fun h => ?_, fun h => ?_⟩⟩
      · rw [k1] at h; cases h
      · rw [k2, k3] at h
        rw [h] at hne
        exact hne
      · rw [k2, k3] at h
        rw [h] at hne
        rw [k2]
        exact hne
theorem rnode_ok : CtrOK Tryd.prog 152 rnodeC :=
  fun_ok (G := rnodeG) (Λ := []) tysOK (ctrs_cons rnparse_ok (ctrs_cons rcount_ok (ctrs_cons rlist_ok ctrs_nil))) mixed (by kernel_rfl) (by kernel_rfl) (by kernel_rfl) (by kernel_rfl) lp_nil fun (x : List UInt8) hw hp => by
    rw [congrFun rnode_tree x]
    have e : rnodeC.fn x = nodeR x := rfl
    rw [e]
    simp only [Tree.holds]
    unfold nodeR
    refine ⟨fun h => ?_, fun h => ?_⟩
    · have h' : nodeBad x = true := h
      rw [h']; rfl
    · have h' : nodeBad x = false := h
      obtain ⟨a, b⟩ := node_first h'
      rw [h']
      exact ⟨⟨by omega, by omega⟩, b⟩
theorem ln_loop : LoopOK (mkC tys rlineG [(0, lnD.spec)]) lnD.spec (loopB 0 (bodyOf (fnOf Tryd.prog 134))) :=
  loopF1_ok (id := 0) (D := lnD) (fun x => congrFun ln_round x) lnStp lnMu (fun _ => rfl) lnStp_ends fun (x : LnS) hp => by
    refine ⟨?_, fun hn => ln_go hp hn⟩
    obtain ⟨⟨l, i, ⟨⟩⟩, m, ⟨⟩⟩ := x
    obtain ⟨h1, h2, h3, h4⟩ := hp
    simp only at h1 h2 h3 h4
    simp only [Tree.holds, lnStp]
    refine ⟨fun h => ?_, fun h => by rw [h]; rfl⟩
    obtain ⟨c1, c2⟩ := ln_both h
    have c1' := of_decide_eq_true c1
    have c2' := of_decide_eq_true c2
    rw [h, i64_id (n := i - 1) (by omega) (by omega), i64_id (n := i + 1) (by omega) (by omega)]
    exact ⟨⟨by omega, by omega⟩, ⟨by omega, by omega⟩, rfl⟩
theorem rline2_ok : CtrOK Tryd.prog 134 rlineC2 :=
  fun_ok (G := rlineG) (Λ := [(0, lnD.spec)]) tysOK (ctrs_cons kcut_ok (ctrs_cons rnum_ok (ctrs_cons rnode_ok (ctrs_cons rcset_ok ctrs_nil)))) mixed (by kernel_rfl) (by kernel_rfl) (by kernel_rfl) (by kernel_rfl) (lp_cons ln_loop lp_nil) fun (x : DConf × List UInt8) hw hp => by
    have hlen : x.2.length ≤ 10000 := hp linePre rfl
    rw [congrFun rline2_tree x]
    have e : rlineC2.fn x = lineR x.1 (wordsF x.2) := rfl
    rw [e]
    obtain ⟨hp2, key⟩ := ln_all (wordsF x.2)
    have hpos := words_pos x.2
    unfold lnSt at key
    have hrep : List.replicate (4 : Nat) (0 : Int) = [0, 0, 0, 0] := rfl
    rw [hrep]
    generalize runF lnStp _ _ = q at key ⊢
    obtain ⟨k1, k2, i, g1, g2, g3, g4, g5⟩ := key
    simp only [Tree.holds]
    rw [k2, g5]
    refine ⟨hlen, hp2, ⟨by omega, by omega⟩, fun hA => ?_, fun hA => ⟨⟨by omega, by omega⟩, fun hB => ?_, fun hB => ⟨⟨by omega, by omega⟩, fun hC => ?_, fun hC => ?_⟩⟩⟩
    · have hA' : isLine (wordsF x.2) wNode 2 = true := hA
      have hl := isLine_len hA'
      unfold lineR
      rw [hA']
      exact ⟨⟨by omega, by omega⟩, rfl⟩
    · have hA' : isLine (wordsF x.2) wNode 2 = false := hA
      have hB' : isLine (wordsF x.2) wRules 5 = true := hB
      have hl := isLine_len hB'
      rw [ns_rules hl g1 g2 g4]
      unfold lineR
      rw [hA', hB', (lb_rules hA' hB').1]
      refine Prod.ext rfl ?_
      exact min4 _ _ _ _
    · have hA' : isLine (wordsF x.2) wNode 2 = false := hA
      have hB' : isLine (wordsF x.2) wRules 5 = false := hB
      have hC0 := (ln_both (ln_both hC).1).1
      have hC' : isLine (wordsF x.2) wLink 3 = true := hC0
      have hl := isLine_len hC'
      have hns := ns_link hl g1 g3 g4
      rw [hns] at hC ⊢
      have c1 := (ln_both (ln_both hC).1).2
      have c2 := (ln_both hC).2
      refine ⟨⟨by omega, by omega⟩, ?_⟩
      unfold lineR
      rw [hA', hB', hC', c1, c2]
      rfl
    · have hA' : isLine (wordsF x.2) wNode 2 = false := hA
      have hB' : isLine (wordsF x.2) wRules 5 = false := hB
      cases hC' : isLine (wordsF x.2) wLink 3 with
      | false =>
        unfold lineR
        rw [hA', hB', hC']
        rfl
      | true =>
        have hns := ns_link (isLine_len hC') g1 g3 g4
        have hC2 : (bif (bif isLine (wordsF x.2) wLink 3 then decide ((nsN (wordsF x.2) i).getD 1 0 ≥ 0) else false) then decide ((nsN (wordsF x.2) i).getD 1 0 ≤ 65536) else false) = false := hC
        rw [hns] at hC2
        unfold lineR
        rw [hA', hB', hC2]
        rfl
end Go.Ev.D
/- The document's configuration parsed. -/
set_option linter.unusedVariables false
set_option linter.unusedSimpArgs false
namespace Go.Ev.D
open Go.Proofs
def rpfG : List (Nat × Ctr) := [(134, rlineC2), (74, printC)]
def rpfD : LoopD where
  prom := []
  ts := [(0, .val .str), (2, .ptr 2 gConf), (3, .val (.int .i64)), (4, .val (.int .i64)), (5, .ptr 5 gConf), (6, .val (.int .i64)), (7, .val (.int .i64)), (18, .val (.int .i64)), (19, .val (.int .i64))]
  bs := [(2, .var gConf), (5, .var gConf)]
  pre := fun (x : RpfS) => rpfPre x
  out := fun (x : RpfS) => out2 0 (runF rpfStp (rpfMu x + 1) x)
theorem rpf_round : (fun x : RpfS => roundOf (mkC tys rpfG [(0, rpfD.spec)]) rpfD (loopB 0 (bodyOf (fnOf Tryd.prog 76))) x) =
  (fun x =>
    Tree.br (decide (x.1.2.2.2.2.2.2.1 < x.1.2.2.2.2.2.1))
      (Tree.need ((0 : Int) ≤ x.1.2.2.2.2.2.2.1 ∧ x.1.2.2.2.2.2.2.1 < (↑(List.length x.1.1) : Int))
        (Tree.br ((↑(UInt8.toNat (List.getD x.1.1 (Int.toNat x.1.2.2.2.2.2.2.1) (0 : UInt8))) : Int) != (10 : Int))
          (Tree.leaf (Ex.normal, some ((x.1.1, x.1.2.1, x.1.2.2.1, x.1.2.2.2.1, x.1.2.2.2.2.1, x.1.2.2.2.2.2.1, IntKind.wrap IntKind.i64 (x.1.2.2.2.2.2.2.1 + (1 : Int)), ()), x.2.1, x.2.2.1, ())))
          (Tree.need ((0 : Int) ≤ x.1.2.2.2.1 ∧ x.1.2.2.2.1 ≤ x.1.2.2.2.2.2.2.1 ∧ x.1.2.2.2.2.2.2.1 ≤ (↑(List.length x.1.1) : Int))
            (Tree.need (linePre (x.2.2.1, List.drop (Int.toNat x.1.2.2.2.1) (List.take (Int.toNat x.1.2.2.2.2.2.2.1) x.1.1)))
              (Tree.br (!(lineR x.2.2.1 (wordsF (List.drop (Int.toNat x.1.2.2.2.1) (List.take (Int.toNat x.1.2.2.2.2.2.2.1) x.1.1)))).2)
                (Tree.leaf
                  (Ex.ret,
                    some
                      ((x.1.1, IntKind.wrap IntKind.i64 (x.1.2.2.2.2.1 + (1 : Int)), (3 : Int), x.1.2.2.2.1, IntKind.wrap IntKind.i64 (x.1.2.2.2.2.1 + (1 : Int)), x.1.2.2.2.2.2.1, x.1.2.2.2.2.2.2.1,
                          ()),
                        ((0 : Int), ((0 : Int), (0 : Int), (0 : Int), (0 : Int)), (0 : Int), List.replicate (16 : Nat) (0 : Int)), x.2.2.1, ())))
                (Tree.leaf
                  (Ex.normal,
                    some
                      ((x.1.1, x.1.2.1, x.1.2.2.1, IntKind.wrap IntKind.i64 (x.1.2.2.2.2.2.2.1 + (1 : Int)), IntKind.wrap IntKind.i64 (x.1.2.2.2.2.1 + (1 : Int)), x.1.2.2.2.2.2.1,
                          IntKind.wrap IntKind.i64 (x.1.2.2.2.2.2.2.1 + (1 : Int)), ()),
                        x.2.1, (lineR x.2.2.1 (wordsF (List.drop (Int.toNat x.1.2.2.2.1) (List.take (Int.toNat x.1.2.2.2.2.2.2.1) x.1.1)))).1, ()))))))))
      (Tree.leaf (Ex.exit (0 : Nat), some ((x.1.1, x.1.2.1, x.1.2.2.1, x.1.2.2.2.1, x.1.2.2.2.2.1, x.1.2.2.2.2.2.1, x.1.2.2.2.2.2.2.1, ()), x.2.1, x.2.2.1, ())))) := by kernel_rfl
theorem rpf_tree : (fun x : List UInt8 => evFn (mkC tys rpfG [(0, rpfD.spec)]) (fnOf Tryd.prog 76) (resL cpfC.args x) cpfC.res) =
  (fun x =>
    Tree.br (decide ((↑(List.length x) : Int) > (2000 : Int)))
      (Tree.leaf (((0 : Int), ((0 : Int), (0 : Int), (0 : Int), (0 : Int)), (0 : Int), List.replicate (16 : Nat) (0 : Int)), (0 : Int), (4 : Int)))
      (Tree.need
        (rpfPre
          ((x, (0 : Int), (0 : Int), (0 : Int), (0 : Int), (↑(List.length x) : Int), (0 : Int), PUnit.unit),
            ((0 : Int), ((0 : Int), (0 : Int), (0 : Int), (0 : Int)), (0 : Int), List.replicate (16 : Nat) (0 : Int)),
            ((0 : Int), ((0 : Int), (0 : Int), (0 : Int), (0 : Int)), (0 : Int), List.replicate (16 : Nat) (0 : Int)), PUnit.unit))
        (Tree.br
          (isRet
            (runF rpfStp
                (rpfMu
                    ((x, (0 : Int), (0 : Int), (0 : Int), (0 : Int), (↑(List.length x) : Int), (0 : Int), PUnit.unit),
                      ((0 : Int), ((0 : Int), (0 : Int), (0 : Int), (0 : Int)), (0 : Int), List.replicate (16 : Nat) (0 : Int)),
                      ((0 : Int), ((0 : Int), (0 : Int), (0 : Int), (0 : Int)), (0 : Int), List.replicate (16 : Nat) (0 : Int)), PUnit.unit) +
                  (1 : Nat))
                ((x, (0 : Int), (0 : Int), (0 : Int), (0 : Int), (↑(List.length x) : Int), (0 : Int), PUnit.unit),
                  ((0 : Int), ((0 : Int), (0 : Int), (0 : Int), (0 : Int)), (0 : Int), List.replicate (16 : Nat) (0 : Int)),
                  ((0 : Int), ((0 : Int), (0 : Int), (0 : Int), (0 : Int)), (0 : Int), List.replicate (16 : Nat) (0 : Int)), PUnit.unit)).1)
          (Tree.leaf
            ((runF rpfStp
                      (rpfMu
                          ((x, (0 : Int), (0 : Int), (0 : Int), (0 : Int), (↑(List.length x) : Int), (0 : Int), PUnit.unit),
                            ((0 : Int), ((0 : Int), (0 : Int), (0 : Int), (0 : Int)), (0 : Int), List.replicate (16 : Nat) (0 : Int)),
                            ((0 : Int), ((0 : Int), (0 : Int), (0 : Int), (0 : Int)), (0 : Int), List.replicate (16 : Nat) (0 : Int)), PUnit.unit) +
                        (1 : Nat))
                      ((x, (0 : Int), (0 : Int), (0 : Int), (0 : Int), (↑(List.length x) : Int), (0 : Int), PUnit.unit),
                        ((0 : Int), ((0 : Int), (0 : Int), (0 : Int), (0 : Int)), (0 : Int), List.replicate (16 : Nat) (0 : Int)),
                        ((0 : Int), ((0 : Int), (0 : Int), (0 : Int), (0 : Int)), (0 : Int), List.replicate (16 : Nat) (0 : Int)), PUnit.unit)).2.2.1,
              (runF rpfStp
                        (rpfMu
                            ((x, (0 : Int), (0 : Int), (0 : Int), (0 : Int), (↑(List.length x) : Int), (0 : Int), PUnit.unit),
                              ((0 : Int), ((0 : Int), (0 : Int), (0 : Int), (0 : Int)), (0 : Int), List.replicate (16 : Nat) (0 : Int)),
                              ((0 : Int), ((0 : Int), (0 : Int), (0 : Int), (0 : Int)), (0 : Int), List.replicate (16 : Nat) (0 : Int)), PUnit.unit) +
                          (1 : Nat))
                        ((x, (0 : Int), (0 : Int), (0 : Int), (0 : Int), (↑(List.length x) : Int), (0 : Int), PUnit.unit),
                          ((0 : Int), ((0 : Int), (0 : Int), (0 : Int), (0 : Int)), (0 : Int), List.replicate (16 : Nat) (0 : Int)),
                          ((0 : Int), ((0 : Int), (0 : Int), (0 : Int), (0 : Int)), (0 : Int), List.replicate (16 : Nat) (0 : Int)), PUnit.unit)).2.1.2.1,
              (runF rpfStp
                          (rpfMu
                              ((x, (0 : Int), (0 : Int), (0 : Int), (0 : Int), (↑(List.length x) : Int), (0 : Int), PUnit.unit),
                                ((0 : Int), ((0 : Int), (0 : Int), (0 : Int), (0 : Int)), (0 : Int), List.replicate (16 : Nat) (0 : Int)),
                                ((0 : Int), ((0 : Int), (0 : Int), (0 : Int), (0 : Int)), (0 : Int), List.replicate (16 : Nat) (0 : Int)), PUnit.unit) +
                            (1 : Nat))
                          ((x, (0 : Int), (0 : Int), (0 : Int), (0 : Int), (↑(List.length x) : Int), (0 : Int), PUnit.unit),
                            ((0 : Int), ((0 : Int), (0 : Int), (0 : Int), (0 : Int)), (0 : Int), List.replicate (16 : Nat) (0 : Int)),
                            ((0 : Int), ((0 : Int), (0 : Int), (0 : Int), (0 : Int)), (0 : Int), List.replicate (16 : Nat) (0 : Int)), PUnit.unit)).2.1.2.2.1))
          (Tree.br
            (decide
              ((runF rpfStp
                              (rpfMu
                                  ((x, (0 : Int), (0 : Int), (0 : Int), (0 : Int), (↑(List.length x) : Int), (0 : Int), PUnit.unit),
                                    ((0 : Int), ((0 : Int), (0 : Int), (0 : Int), (0 : Int)), (0 : Int), List.replicate (16 : Nat) (0 : Int)),
                                    ((0 : Int), ((0 : Int), (0 : Int), (0 : Int), (0 : Int)), (0 : Int), List.replicate (16 : Nat) (0 : Int)), PUnit.unit) +
                                (1 : Nat))
                              ((x, (0 : Int), (0 : Int), (0 : Int), (0 : Int), (↑(List.length x) : Int), (0 : Int), PUnit.unit),
                                ((0 : Int), ((0 : Int), (0 : Int), (0 : Int), (0 : Int)), (0 : Int), List.replicate (16 : Nat) (0 : Int)),
                                ((0 : Int), ((0 : Int), (0 : Int), (0 : Int), (0 : Int)), (0 : Int), List.replicate (16 : Nat) (0 : Int)), PUnit.unit)).2.1.2.2.2.1 <
                (↑(List.length
                      (runF rpfStp
                              (rpfMu
                                  ((x, (0 : Int), (0 : Int), (0 : Int), (0 : Int), (↑(List.length x) : Int), (0 : Int), PUnit.unit),
                                    ((0 : Int), ((0 : Int), (0 : Int), (0 : Int), (0 : Int)), (0 : Int), List.replicate (16 : Nat) (0 : Int)),
                                    ((0 : Int), ((0 : Int), (0 : Int), (0 : Int), (0 : Int)), (0 : Int), List.replicate (16 : Nat) (0 : Int)), PUnit.unit) +
                                (1 : Nat))
                              ((x, (0 : Int), (0 : Int), (0 : Int), (0 : Int), (↑(List.length x) : Int), (0 : Int), PUnit.unit),
                                ((0 : Int), ((0 : Int), (0 : Int), (0 : Int), (0 : Int)), (0 : Int), List.replicate (16 : Nat) (0 : Int)),
                                ((0 : Int), ((0 : Int), (0 : Int), (0 : Int), (0 : Int)), (0 : Int), List.replicate (16 : Nat) (0 : Int)), PUnit.unit)).2.1.1) :
                  Int)))
            (Tree.leaf
              (((0 : Int), ((0 : Int), (0 : Int), (0 : Int), (0 : Int)), (0 : Int), List.replicate (16 : Nat) (0 : Int)),
                IntKind.wrap IntKind.i64
                  ((runF rpfStp
                                    (rpfMu
                                        ((x, (0 : Int), (0 : Int), (0 : Int), (0 : Int), (↑(List.length x) : Int), (0 : Int), PUnit.unit),
                                          ((0 : Int), ((0 : Int), (0 : Int), (0 : Int), (0 : Int)), (0 : Int), List.replicate (16 : Nat) (0 : Int)),
                                          ((0 : Int), ((0 : Int), (0 : Int), (0 : Int), (0 : Int)), (0 : Int), List.replicate (16 : Nat) (0 : Int)), PUnit.unit) +
                                      (1 : Nat))
                                    ((x, (0 : Int), (0 : Int), (0 : Int), (0 : Int), (↑(List.length x) : Int), (0 : Int), PUnit.unit),
                                      ((0 : Int), ((0 : Int), (0 : Int), (0 : Int), (0 : Int)), (0 : Int), List.replicate (16 : Nat) (0 : Int)),
                                      ((0 : Int), ((0 : Int), (0 : Int), (0 : Int), (0 : Int)), (0 : Int), List.replicate (16 : Nat) (0 : Int)), PUnit.unit)).2.1.2.2.2.2.1 +
                    (1 : Int)),
                (2 : Int)))
            (Tree.br
              (bif
                  (printF
                        (runF rpfStp
                                  (rpfMu
                                      ((x, (0 : Int), (0 : Int), (0 : Int), (0 : Int), (↑(List.length x) : Int), (0 : Int), PUnit.unit),
                                        ((0 : Int), ((0 : Int), (0 : Int), (0 : Int), (0 : Int)), (0 : Int), List.replicate (16 : Nat) (0 : Int)),
                                        ((0 : Int), ((0 : Int), (0 : Int), (0 : Int), (0 : Int)), (0 : Int), List.replicate (16 : Nat) (0 : Int)), PUnit.unit) +
                                    (1 : Nat))
                                  ((x, (0 : Int), (0 : Int), (0 : Int), (0 : Int), (↑(List.length x) : Int), (0 : Int), PUnit.unit),
                                    ((0 : Int), ((0 : Int), (0 : Int), (0 : Int), (0 : Int)), (0 : Int), List.replicate (16 : Nat) (0 : Int)),
                                    ((0 : Int), ((0 : Int), (0 : Int), (0 : Int), (0 : Int)), (0 : Int), List.replicate (16 : Nat) (0 : Int)), PUnit.unit)).2.2.2.1).2 !=
                    (0 : Int) then
                true
              else
                !(printF
                        (runF rpfStp
                                  (rpfMu
                                      ((x, (0 : Int), (0 : Int), (0 : Int), (0 : Int), (↑(List.length x) : Int), (0 : Int), PUnit.unit),
                                        ((0 : Int), ((0 : Int), (0 : Int), (0 : Int), (0 : Int)), (0 : Int), List.replicate (16 : Nat) (0 : Int)),
                                        ((0 : Int), ((0 : Int), (0 : Int), (0 : Int), (0 : Int)), (0 : Int), List.replicate (16 : Nat) (0 : Int)), PUnit.unit) +
                                    (1 : Nat))
                                  ((x, (0 : Int), (0 : Int), (0 : Int), (0 : Int), (↑(List.length x) : Int), (0 : Int), PUnit.unit),
                                    ((0 : Int), ((0 : Int), (0 : Int), (0 : Int), (0 : Int)), (0 : Int), List.replicate (16 : Nat) (0 : Int)),
                                    ((0 : Int), ((0 : Int), (0 : Int), (0 : Int), (0 : Int)), (0 : Int), List.replicate (16 : Nat) (0 : Int)), PUnit.unit)).2.2.2.1).1 ==
                    (runF rpfStp
                            (rpfMu
                                ((x, (0 : Int), (0 : Int), (0 : Int), (0 : Int), (↑(List.length x) : Int), (0 : Int), PUnit.unit),
                                  ((0 : Int), ((0 : Int), (0 : Int), (0 : Int), (0 : Int)), (0 : Int), List.replicate (16 : Nat) (0 : Int)),
                                  ((0 : Int), ((0 : Int), (0 : Int), (0 : Int), (0 : Int)), (0 : Int), List.replicate (16 : Nat) (0 : Int)), PUnit.unit) +
                              (1 : Nat))
                            ((x, (0 : Int), (0 : Int), (0 : Int), (0 : Int), (↑(List.length x) : Int), (0 : Int), PUnit.unit),
                              ((0 : Int), ((0 : Int), (0 : Int), (0 : Int), (0 : Int)), (0 : Int), List.replicate (16 : Nat) (0 : Int)),
                              ((0 : Int), ((0 : Int), (0 : Int), (0 : Int), (0 : Int)), (0 : Int), List.replicate (16 : Nat) (0 : Int)), PUnit.unit)).2.1.1)
              (Tree.leaf (((0 : Int), ((0 : Int), (0 : Int), (0 : Int), (0 : Int)), (0 : Int), List.replicate (16 : Nat) (0 : Int)), (0 : Int), (3 : Int)))
              (Tree.leaf
                ((runF rpfStp
                            (rpfMu
                                ((x, (0 : Int), (0 : Int), (0 : Int), (0 : Int), (↑(List.length x) : Int), (0 : Int), PUnit.unit),
                                  ((0 : Int), ((0 : Int), (0 : Int), (0 : Int), (0 : Int)), (0 : Int), List.replicate (16 : Nat) (0 : Int)),
                                  ((0 : Int), ((0 : Int), (0 : Int), (0 : Int), (0 : Int)), (0 : Int), List.replicate (16 : Nat) (0 : Int)), PUnit.unit) +
                              (1 : Nat))
                            ((x, (0 : Int), (0 : Int), (0 : Int), (0 : Int), (↑(List.length x) : Int), (0 : Int), PUnit.unit),
                              ((0 : Int), ((0 : Int), (0 : Int), (0 : Int), (0 : Int)), (0 : Int), List.replicate (16 : Nat) (0 : Int)),
                              ((0 : Int), ((0 : Int), (0 : Int), (0 : Int), (0 : Int)), (0 : Int), List.replicate (16 : Nat) (0 : Int)), PUnit.unit)).2.2.2.1,
                  (0 : Int), (0 : Int)))))))) := by kernel_rfl
theorem rpf_loop : LoopOK (mkC tys rpfG [(0, rpfD.spec)]) rpfD.spec (loopB 0 (bodyOf (fnOf Tryd.prog 76))) :=
  loopF2_ok (id := 0) (D := rpfD) (fun x => congrFun rpf_round x) rpfStp rpfMu (fun _ => rfl) rpfStp_ends fun (x : RpfS) hp => by
    refine ⟨?_, fun hn => rpf_go hp hn⟩
    obtain ⟨⟨s, e3, e4, a, n, len, i, ⟨⟩⟩, c2, c, ⟨⟩⟩ := x
    obtain ⟨h1, h2, h3, h4, h5, h6, h7⟩ := hp
    simp only at h1 h2 h3 h4 h5 h6 h7
    have hb : rpfB ((s, e3, e4, a, n, len, i, PUnit.unit), c2, c, PUnit.unit) = ((s.getD i.toNat 0).toNat : Int) := rfl
    have hL : rpfL ((s, e3, e4, a, n, len, i, PUnit.unit), c2, c, PUnit.unit) = lineR c (wordsF ((s.take i.toNat).drop a.toNat)) := rfl
    simp only [Tree.holds, rpfStp, hb, hL]
    refine ⟨fun h => ?_, fun h => by rw [h]; rfl⟩
    have hi := of_decide_eq_true h
    have e1 := i64_id (n := i + 1) (by omega) (by omega)
    have e2 := i64_id (n := n + 1) (by omega) (by omega)
    rw [e1, e2]
    refine ⟨⟨Int.le_trans h1 h2, by omega⟩, fun g => by rw [h, g]; rfl, fun g => ⟨⟨h1, h2, by omega⟩, ?_, fun k => by rw [h, g, k]; rfl, fun k => by rw [h, g, k]; rfl⟩⟩
    show ((s.take i.toNat).drop a.toNat).length ≤ 10000
    rw [List.length_drop, List.length_take]
    omega
theorem rpf_ok : CtrOK Tryd.prog 76 cpfC :=
  fun_ok (G := rpfG) (Λ := [(0, rpfD.spec)]) tysOK (ctrs_cons rline2_ok (ctrs_cons wprint_ok ctrs_nil)) mixed (by kernel_rfl) (by kernel_rfl) (by kernel_rfl) (by kernel_rfl) (lp_cons rpf_loop lp_nil) fun (x : List UInt8) hw hp => by
    rw [congrFun rpf_tree x]
    have e : cpfC.fn x = parseF x := rfl
    rw [e]
    unfold parseF
    by_cases hx : (x.length : Int) > 2000
    · rw [decide_eq_true hx]
      exact ⟨fun _ => rfl, fun h => by cases h⟩
    rw [decide_eq_false hx]
    obtain ⟨hp2, key⟩ := rpf_all (s := x) (by omega)
    refine ⟨fun h => (by cases h), fun _ => ⟨hp2, ?_⟩⟩
    simp only [cond_false]
    unfold rpfSt at key
    generalize parGo x [] 1 zeroConf = r at key ⊢
    generalize runF rpfStp _ _ = q at key ⊢
    simp only [Tree.holds]
    rcases key with ⟨k1, rfl, k3, k4⟩ | ⟨k1, k2, k3, k4, rfl⟩
    · refine ⟨fun _ => ?_, fun h => ?_⟩
      · unfold parEnd
        simp only
        rw [k4, k3]; rfl
      · rw [k1] at h; cases h
    · rw [k2]
      refine ⟨fun h => ?_, fun _ => ⟨fun h => ?_, fun h => ⟨fun g => ?_, fun g => ?_⟩⟩⟩
      · rw [k1] at h; cases h
      · rw [h, i64_id (n := q.2.1.2.2.2.2.1 + 1) (by omega) (by omega)]; rfl
      · rw [h]
        unfold parEnd
        simp only [cond_false]
        rw [show ((0 : Int) != 0) = false by decide, g]; rfl
      · rw [h]
        unfold parEnd
        simp only [cond_false]
        rw [show ((0 : Int) != 0) = false by decide, g]; rfl
def csameC : Ctr := { args := [gConf, gConf], res := [.bool], pre := none, fn := fun (x : DConf × DConf) => geq gConf x.1 x.2 }
def csameG : List (Nat × Ctr) := []
theorem csame_tree : (fun x : DConf × DConf => evFn (mkC tys csameG []) (fnOf Tryd.prog 77) (resL csameC.args x) csameC.res) =
  (fun x =>
    Tree.leaf
      (geq
        (GTy.prod (GTy.int IntKind.i64)
          (GTy.prod (GTy.prod (GTy.int IntKind.i64) (GTy.prod (GTy.int IntKind.i64) (GTy.prod (GTy.int IntKind.i64) (GTy.int IntKind.i64))))
            (GTy.prod (GTy.int IntKind.i64) (GTy.arr (16 : Nat) (GTy.int IntKind.u32)))))
        x.1 x.2)) := by kernel_rfl
theorem csame_ok : CtrOK Tryd.prog 77 csameC :=
  fun_ok (G := csameG) (Λ := []) tysOK ctrs_nil mixed (by kernel_rfl) (by kernel_rfl) (by kernel_rfl) (by kernel_rfl) lp_nil fun (x : DConf × DConf) hw _ => by
    rw [congrFun csame_tree x]
    exact holds_val (d := csameC.fn x) (by kernel_rfl) (by simp [Tree.safe])
def rcsameC : Ctr := { args := [gConf, gConf], res := [.bool], pre := none, fn := fun (x : DConf × DConf) => geq gConf x.1 x.2 }
def rcsameG : List (Nat × Ctr) := []
theorem rcsame_tree : (fun x : DConf × DConf => evFn (mkC tys rcsameG []) (fnOf Tryd.prog 78) (resL rcsameC.args x) rcsameC.res) =
  (fun x =>
    Tree.leaf
      (geq
        (GTy.prod (GTy.int IntKind.i64)
          (GTy.prod (GTy.prod (GTy.int IntKind.i64) (GTy.prod (GTy.int IntKind.i64) (GTy.prod (GTy.int IntKind.i64) (GTy.int IntKind.i64))))
            (GTy.prod (GTy.int IntKind.i64) (GTy.arr (16 : Nat) (GTy.int IntKind.u32)))))
        x.1 x.2)) := by kernel_rfl
theorem rcsame_ok : CtrOK Tryd.prog 78 rcsameC :=
  fun_ok (G := rcsameG) (Λ := []) tysOK ctrs_nil mixed (by kernel_rfl) (by kernel_rfl) (by kernel_rfl) (by kernel_rfl) lp_nil fun (x : DConf × DConf) hw _ => by
    rw [congrFun rcsame_tree x]
    exact holds_val (d := rcsameC.fn x) (by kernel_rfl) (by simp [Tree.safe])
def confE : DConf := (2, (2, 8, 2, 3), (csetF (0, List.replicate 16 0) 1 50).1)
def some35C : Ctr := { args := [], res := [gConf], pre := none, fn := fun (x : Unit) => confE }
def some35G : List (Nat × Ctr) := [(42, csetC)]
theorem some35_tree : (fun x : Unit => evFn (mkC tys some35G [] true) (fnOf Tryd.prog 129) (resL some35C.args x) some35C.res) =
  (fun x =>
    Tree.leaf
      ((2 : Int), ((2 : Int), (8 : Int), (2 : Int), (3 : Int)), (2 : Int),
        [(0 : Int), (50 : Int), (0 : Int), (0 : Int), (0 : Int), (0 : Int), (0 : Int), (0 : Int), (0 : Int), (0 : Int), (0 : Int), (0 : Int), (0 : Int), (0 : Int), (0 : Int), (0 : Int)])) := by kernel_rfl
theorem some35_ok : CtrOK Tryd.prog 129 some35C :=
  fun_okX true (G := some35G) (Λ := []) tysOK (ctrs_cons cset_ok ctrs_nil) mixed (by kernel_rfl) (by kernel_rfl) (by kernel_rfl) (by kernel_rfl) lp_nil fun (x : Unit) hw _ => by
    rw [congrFun some35_tree x]
    exact holds_val (d := some35C.fn x) (by kernel_rfl) (by simp [Tree.safe])
def awake35C : Ctr := { args := [], res := [.bool], pre := none, fn := fun (x : Unit) => true }
def awake35G : List (Nat × Ctr) := [(129, some35C), (63, printC), (75, cpfC), (77, csameC)]
theorem awake35_tree : (fun x : Unit => evFn (mkC tys awake35G [] true) (fnOf Tryd.prog 73) (resL awake35C.args x) awake35C.res) =
  (fun x => Tree.leaf true) := by kernel_rfl
theorem awake35_ok : CtrOK Tryd.prog 73 awake35C :=
  fun_okX true (G := awake35G) (Λ := []) tysOK (ctrs_cons some35_ok (ctrs_cons print_ok (ctrs_cons cpf_ok (ctrs_cons csame_ok ctrs_nil)))) mixed (by kernel_rfl) (by kernel_rfl) (by kernel_rfl) (by kernel_rfl) lp_nil fun (x : Unit) hw _ => by
    rw [congrFun awake35_tree x]
    exact holds_val (d := awake35C.fn x) (by kernel_rfl) (by simp [Tree.safe])
end Go.Ev.D
/- What is said of configurations answers true. -/
set_option linter.unusedVariables false
set_option linter.unusedSimpArgs false
namespace Go.Ev.D
open Go.Proofs
def wprintC : Ctr := printC
def rpfC : Ctr := cpfC
def csaysG : List (Nat × Ctr) := [(73, awake35C), (63, printC), (74, wprintC), (75, cpfC), (76, rpfC), (77, csameC), (78, rcsameC)]
theorem csaysG_ok : CtrsOK Tryd.prog (fun f => lk f csaysG) := (ctrs_cons awake35_ok (ctrs_cons print_ok (ctrs_cons wprint_ok (ctrs_cons cpf_ok (ctrs_cons rpf_ok (ctrs_cons csame_ok (ctrs_cons rcsame_ok ctrs_nil)))))))
def csaysC35 : Ctr := { args := [gConf, .str], res := [.bool], pre := some (smallD [gConf, .str]), fn := fun _ => true }
theorem csays35_tree : (fun x : DConf × List UInt8 => evFn (mkC tys csaysG []) (fnOf Tryd.prog 13) (resL csaysC35.args x) csaysC35.res) =
  (fun x =>
    Tree.br (decide ((↑(List.length x.2) : Int) > (2100 : Int))) (Tree.leaf true)
      (Tree.leaf
        (bif
            bif
                bif
                    bif
                        bif bif (printF x.1).1 == (printF x.1).1 then (printF x.1).2 == (printF x.1).2 else false then
                          geq
                            (GTy.prod (GTy.int IntKind.i64)
                              (GTy.prod (GTy.prod (GTy.int IntKind.i64) (GTy.prod (GTy.int IntKind.i64) (GTy.prod (GTy.int IntKind.i64) (GTy.int IntKind.i64))))
                                (GTy.prod (GTy.int IntKind.i64) (GTy.arr (16 : Nat) (GTy.int IntKind.u32)))))
                            (parseF x.2).1 (parseF x.2).1
                        else false then
                      (parseF x.2).2.1 == (parseF x.2).2.1
                    else false then
                  (parseF x.2).2.2 == (parseF x.2).2.2
                else false then
              geq GTy.bool
                (geq
                  (GTy.prod (GTy.int IntKind.i64)
                    (GTy.prod (GTy.prod (GTy.int IntKind.i64) (GTy.prod (GTy.int IntKind.i64) (GTy.prod (GTy.int IntKind.i64) (GTy.int IntKind.i64))))
                      (GTy.prod (GTy.int IntKind.i64) (GTy.arr (16 : Nat) (GTy.int IntKind.u32)))))
                  x.1 (parseF x.2).1)
                (geq
                  (GTy.prod (GTy.int IntKind.i64)
                    (GTy.prod (GTy.prod (GTy.int IntKind.i64) (GTy.prod (GTy.int IntKind.i64) (GTy.prod (GTy.int IntKind.i64) (GTy.int IntKind.i64))))
                      (GTy.prod (GTy.int IntKind.i64) (GTy.arr (16 : Nat) (GTy.int IntKind.u32)))))
                  x.1 (parseF x.2).1)
            else false then
          true
        else false))) := by kernel_rfl
def cbackG : List (Nat × Ctr) := [(73, awake35C), (63, printC), (75, cpfC)]
theorem cbackG_ok : CtrsOK Tryd.prog (fun f => lk f cbackG) := (ctrs_cons awake35_ok (ctrs_cons print_ok (ctrs_cons cpf_ok ctrs_nil)))
theorem cback_tree : (fun x : DConf × List UInt8 => evFn (mkC tys cbackG []) (fnOf Tryd.prog 14) (resL csaysC35.args x) csaysC35.res) =
  (fun x =>
    Tree.br (decide ((↑(List.length x.2) : Int) > (2100 : Int))) (Tree.leaf true)
      (Tree.br ((printF x.1).2 == (0 : Int))
        (Tree.br
          (bif bif (parseF (printF x.1).1).2.2 != (0 : Int) then true else (parseF (printF x.1).1).2.1 != (0 : Int) then true
          else
            !geq
                (GTy.prod (GTy.int IntKind.i64)
                  (GTy.prod (GTy.prod (GTy.int IntKind.i64) (GTy.prod (GTy.int IntKind.i64) (GTy.prod (GTy.int IntKind.i64) (GTy.int IntKind.i64))))
                    (GTy.prod (GTy.int IntKind.i64) (GTy.arr (16 : Nat) (GTy.int IntKind.u32)))))
                (parseF (printF x.1).1).1 x.1)
          (Tree.leaf false)
          (Tree.br ((parseF x.2).2.2 != (0 : Int))
            (Tree.leaf
              (bif
                  geq
                    (GTy.prod (GTy.int IntKind.i64)
                      (GTy.prod (GTy.prod (GTy.int IntKind.i64) (GTy.prod (GTy.int IntKind.i64) (GTy.prod (GTy.int IntKind.i64) (GTy.int IntKind.i64))))
                        (GTy.prod (GTy.int IntKind.i64) (GTy.arr (16 : Nat) (GTy.int IntKind.u32)))))
                    (parseF x.2).1 ((0 : Int), ((0 : Int), (0 : Int), (0 : Int), (0 : Int)), (0 : Int), List.replicate (16 : Nat) (0 : Int)) then
                true
              else false))
            (Tree.leaf (bif bif (printF (parseF x.2).1).2 == (0 : Int) then (printF (parseF x.2).1).1 == x.2 else false then true else false))))
        (Tree.br ((parseF x.2).2.2 != (0 : Int))
          (Tree.leaf
            (bif
                geq
                  (GTy.prod (GTy.int IntKind.i64)
                    (GTy.prod (GTy.prod (GTy.int IntKind.i64) (GTy.prod (GTy.int IntKind.i64) (GTy.prod (GTy.int IntKind.i64) (GTy.int IntKind.i64))))
                      (GTy.prod (GTy.int IntKind.i64) (GTy.arr (16 : Nat) (GTy.int IntKind.u32)))))
                  (parseF x.2).1 ((0 : Int), ((0 : Int), (0 : Int), (0 : Int), (0 : Int)), (0 : Int), List.replicate (16 : Nat) (0 : Int)) then
              true
            else false))
          (Tree.leaf (bif bif (printF (parseF x.2).1).2 == (0 : Int) then (printF (parseF x.2).1).1 == x.2 else false then true else false))))) := by kernel_rfl
theorem csays35_ok : CtrOK Tryd.prog 13 csaysC35 :=
  fun_ok (G := csaysG) (Λ := []) tysOK csaysG_ok mixed (by kernel_rfl) (by kernel_rfl) (by kernel_rfl) (by kernel_rfl) lp_nil fun (x : DConf × List UInt8) hw _ => by
    rw [congrFun csays35_tree x]
    simp only [Tree.holds]
    have e1 : geq gConf (parseF x.2).1 (parseF x.2).1 = true := geq_self gConf _ rfl
    have e2 : geq GTy.bool (geq gConf x.1 (parseF x.2).1) (geq gConf x.1 (parseF x.2).1) = true := geq_self GTy.bool _ rfl
    refine ⟨fun _ => rfl, fun _ => ?_⟩
    show (bif bif bif bif bif bif (printF x.1).1 == (printF x.1).1 then (printF x.1).2 == (printF x.1).2 else false then geq gConf (parseF x.2).1 (parseF x.2).1 else false then (parseF x.2).2.1 == (parseF x.2).2.1 else false then (parseF x.2).2.2 == (parseF x.2).2.2 else false then geq GTy.bool (geq gConf x.1 (parseF x.2).1) (geq gConf x.1 (parseF x.2).1) else false then true else false) = true
    rw [e1, e2]
    simp
end Go.Ev.D
/- What is printed of a configuration is parsed, and the other way round: the law. -/
set_option linter.unusedVariables false
set_option linter.unusedSimpArgs false
namespace Go.Ev.D
open Go.Proofs
theorem cback_ok : CtrOK Tryd.prog 14 csaysC35 :=
  fun_ok (G := cbackG) (Λ := []) tysOK cbackG_ok mixed (by kernel_rfl) (by kernel_rfl) (by kernel_rfl) (by kernel_rfl) lp_nil fun (x : DConf × List UInt8) hw _ => by
    rw [congrFun cback_tree x]
    have hl : x.1.2.2.2.length = 16 := hw.1.2.2.2.1
    have hz : ((parseF x.2).2.2 != (0 : Int)) = true → geq gConf (parseF x.2).1 zeroConf = true := fun h => by
      rw [parse_bad h]
      exact geq_self gConf _ rfl
    have hg : ((parseF x.2).2.2 != (0 : Int)) = false → (bif bif (printF (parseF x.2).1).2 == (0 : Int) then (printF (parseF x.2).1).1 == x.2 else false then true else false) = true := fun h => by
      obtain ⟨a, b⟩ := parse_good h
      rw [a, b]
      simp
    simp only [Tree.holds]
    refine ⟨fun _ => rfl, fun _ => ⟨fun h => ⟨fun h2 => ?_, fun _ => ⟨fun h3 => ?_, fun h3 => hg h3⟩⟩, fun _ => ⟨fun h3 => ?_, fun h3 => hg h3⟩⟩⟩
    · exfalso
      rw [print_parse hl h] at h2
      have h3 : (bif bif (0 : Int) != 0 then true else (0 : Int) != 0 then true else !geq gConf x.1 x.1) = true := h2
      rw [geq_self gConf x.1 rfl] at h3
      simp at h3
    · show (bif geq gConf (parseF x.2).1 zeroConf then true else false) = true
      rw [hz h3]; rfl
    · show (bif geq gConf (parseF x.2).1 zeroConf then true else false) = true
      rw [hz h3]; rfl
end Go.Ev.D
