/- The functions of 'fwd' and what they call keep their contracts. -/
import Derived.Test.YtohodbfoeejbjaaPLawEpoch
import Derived.Test.YtohodbfoeejbjaaEvLawFwd
set_option linter.unusedVariables false
set_option linter.unusedSimpArgs false
namespace Go.Ev.P
open Go.Proofs
def rightC : Ctr := { args := [.int .i64], res := [.bool], pre := none, fn := fun (x : Int) => rightF x }
def rightG : List (Nat × Ctr) := []
theorem right_tree : (fun x : Int => evFn (mkC tys rightG []) (fnOf Try.prog 35) (resL rightC.args x) rightC.res) =
  (fun x => Tree.leaf (bif decide (x ≥ (0 : Int)) then decide (x < (16 : Int)) else false)) := by kernel_rfl
theorem right_ok : CtrOK Try.prog 35 rightC :=
  fun_ok (G := rightG) (Λ := []) tysOK ctrs_nil mixed (by kernel_rfl) (by kernel_rfl) (by kernel_rfl) (by kernel_rfl) lp_nil fun (x : Int) hw _ => by
    rw [congrFun right_tree x]
    exact holds_val (d := rightC.fn x) (by kernel_rfl) (by simp [Tree.safe])
def prightC : Ctr := { args := [gParcel], res := [.bool], pre := none, fn := fun (x : DParcel) => prightF x }
def prightG : List (Nat × Ctr) := [(35, rightC)]
theorem pright_tree : (fun x : DParcel => evFn (mkC tys prightG []) (fnOf Try.prog 34) (resL prightC.args x) prightC.res) =
  (fun x =>
    Tree.leaf
      (bif
          bif bif bif bif rightF x.1 then rightF x.2.2.1 else false then rightF x.2.2.2.1 else false then decide (x.2.2.2.2.1 ≥ (1 : Int)) else false then decide (x.2.2.2.2.1 ≤ (64 : Int))
          else false then
        decide ((↑(List.length x.2.2.2.2.2) : Int) ≤ (64 : Int))
      else false)) := by kernel_rfl
theorem pright_ok : CtrOK Try.prog 34 prightC :=
  fun_ok (G := prightG) (Λ := []) tysOK (ctrs_cons right_ok ctrs_nil) mixed (by kernel_rfl) (by kernel_rfl) (by kernel_rfl) (by kernel_rfl) lp_nil fun (x : DParcel) hw _ => by
    rw [congrFun pright_tree x]
    exact holds_val (d := prightC.fn x) (by kernel_rfl) (by simp [Tree.safe])
def hoppedC : Ctr := { args := [gParcel, .int .i64, gPair], res := [gParcel], pre := none, fn := fun (x : DParcel × Int × DPair) => hoppedF x.1 x.2.1 x.2.2 }
def hoppedG : List (Nat × Ctr) := []
theorem hopped_tree : (fun x : DParcel × Int × DPair => evFn (mkC tys hoppedG []) (fnOf Try.prog 127) (resL hoppedC.args x) hoppedC.res) =
  (fun x =>
    Tree.br (decide (x.1.2.2.2.2.1 ≤ (1 : Int))) (Tree.leaf ((0 : Int), (((0 : Int), (0 : Int)), (0 : Int), (0 : Int)), (0 : Int), (0 : Int), (0 : Int), []))
      (Tree.leaf (x.2.1, x.2.2, x.1.2.2.1, x.1.2.2.2.1, IntKind.wrap IntKind.i64 (x.1.2.2.2.2.1 - (1 : Int)), x.1.2.2.2.2.2))) := by kernel_rfl
theorem hopped_ok : CtrOK Try.prog 127 hoppedC :=
  fun_ok (G := hoppedG) (Λ := []) tysOK ctrs_nil mixed (by kernel_rfl) (by kernel_rfl) (by kernel_rfl) (by kernel_rfl) lp_nil fun (x : DParcel × Int × DPair) hw _ => by
    rw [congrFun hopped_tree x]
    exact holds_val (d := hoppedC.fn x) (by kernel_rfl) (by simp [Tree.safe])
def hopC : Ctr := { args := [gParcel, .int .i64, gPair], res := [gParcel, .bool], pre := none, fn := fun (x : DParcel × Int × DPair) => hopF x.1 x.2.1 x.2.2 }
def hopG : List (Nat × Ctr) := [(127, hoppedC)]
theorem hop_tree : (fun x : DParcel × Int × DPair => evFn (mkC tys hopG []) (fnOf Try.prog 77) (resL hopC.args x) hopC.res) =
  (fun x =>
    Tree.leaf
      (hoppedF x.1 x.2.1 x.2.2,
        !geq
            (GTy.prod (GTy.int IntKind.i64)
              (GTy.prod (GTy.prod (GTy.prod (GTy.int IntKind.u32) (GTy.int IntKind.u32)) (GTy.prod (GTy.int IntKind.u32) (GTy.int IntKind.u32)))
                (GTy.prod (GTy.int IntKind.i64) (GTy.prod (GTy.int IntKind.i64) (GTy.prod (GTy.int IntKind.i64) GTy.str)))))
            (hoppedF x.1 x.2.1 x.2.2) ((0 : Int), (((0 : Int), (0 : Int)), (0 : Int), (0 : Int)), (0 : Int), (0 : Int), (0 : Int), []))) := by kernel_rfl
theorem hop_ok : CtrOK Try.prog 77 hopC :=
  fun_ok (G := hopG) (Λ := []) tysOK (ctrs_cons hopped_ok ctrs_nil) mixed (by kernel_rfl) (by kernel_rfl) (by kernel_rfl) (by kernel_rfl) lp_nil fun (x : DParcel × Int × DPair) hw _ => by
    rw [congrFun hop_tree x]
    exact holds_val (d := hopC.fn x) (by kernel_rfl) (by simp [Tree.safe])
def oldC : Ctr := { args := [gFib, gParcel], res := [.bool], pre := none, fn := fun (x : DFib × DParcel) => oldF x.1 x.2 }
def oldG : List (Nat × Ctr) := [(35, rightC), (31, sameC)]
theorem old_tree : (fun x : DFib × DParcel => evFn (mkC tys oldG []) (fnOf Try.prog 126) (resL oldC.args x) oldC.res) =
  (fun x =>
    Tree.need (((bif !rightF x.2.1 then true else x.2.1 == x.1.1) == false && true) = true → (0 : Int) ≤ x.2.1 ∧ x.2.1 < (16 : Int))
      (Tree.leaf (bif bif !rightF x.2.1 then true else x.2.1 == x.1.1 then true else !sameF (List.getD x.1.2.2 (Int.toNat x.2.1) (((0 : Int), (0 : Int)), (0 : Int), (0 : Int))) x.2.2.1))) := by kernel_rfl
theorem old_ok : CtrOK Try.prog 126 oldC :=
  fun_ok (G := oldG) (Λ := []) tysOK (ctrs_cons right_ok (ctrs_cons same_ok ctrs_nil)) mixed (by kernel_rfl) (by kernel_rfl) (by kernel_rfl) (by kernel_rfl) lp_nil fun (x : DFib × DParcel) hw _ => by
    rw [congrFun old_tree x]
    exact holds_val (d := oldC.fn x) (by kernel_rfl) (by simp only [Tree.safe, and_true]; intro h; refine rightF_iff.1 ?_; cases hr : rightF x.2.1 <;> simp [hr] at h ⊢)
def fateC : Ctr := { args := [gFib, gParcel, .bool], res := [.int .i64], pre := none, fn := fun (x : DFib × DParcel × Bool) => fateF x.1 x.2.1 x.2.2 }
def fateG : List (Nat × Ctr) := [(35, rightC), (34, prightC), (126, oldC)]
theorem fate_tree : (fun x : DFib × DParcel × Bool => evFn (mkC tys fateG []) (fnOf Try.prog 76) (resL fateC.args x) fateC.res) =
  (fun x =>
    Tree.br (!prightF x.2.1) (Tree.leaf (3 : Int))
      (Tree.br (bif !x.2.2 then oldF x.1 x.2.1 else false) (Tree.leaf (4 : Int))
        (Tree.br (x.2.1.2.2.2.1 == x.1.1) (Tree.leaf (0 : Int))
          (Tree.br (bif !x.2.2 then x.2.1.2.2.1 == x.1.1 else false) (Tree.leaf (5 : Int))
            (Tree.need ((0 : Int) ≤ x.2.1.2.2.2.1 ∧ x.2.1.2.2.2.1 < (16 : Int))
              (Tree.br (!rightF (List.getD x.1.2.1 (Int.toNat x.2.1.2.2.2.1) (0 : Int))) (Tree.leaf (3 : Int))
                (Tree.br (bif !x.2.2 then decide (x.2.1.2.2.2.2.1 ≤ (1 : Int)) else false) (Tree.leaf (2 : Int)) (Tree.leaf (1 : Int))))))))) := by kernel_rfl
theorem fate_ok : CtrOK Try.prog 76 fateC :=
  fun_ok (G := fateG) (Λ := []) tysOK (ctrs_cons right_ok (ctrs_cons pright_ok (ctrs_cons old_ok ctrs_nil))) mixed (by kernel_rfl) (by kernel_rfl) (by kernel_rfl) (by kernel_rfl) lp_nil fun (x : DFib × DParcel × Bool) hw _ => by
    rw [congrFun fate_tree x]
    exact holds_val (d := fateC.fn x) (by kernel_rfl) (by simp only [Tree.safe]; refine ⟨fun _ => trivial, fun h => ⟨fun _ => trivial, fun _ => ⟨fun _ => trivial, fun _ => ⟨fun _ => trivial, fun _ => ⟨prightF_dst (by simpa using h), ?_⟩⟩⟩⟩⟩; simp [Tree.safe])
noncomputable def newL : List (Nat × LoopSpec) := [(0, rounds (mkC tys [] []) (loopB 0 (bodyOf (fnOf Try.prog 125))) [] [3, 7] [3] 17)]
def fnewC : Ctr := { args := [.int .i64], res := [gFib], pre := none, fn := fun (x : Int) => fib0 x }
theorem new_tree : (fun x : Int => evFn (mkC tys [] newL) (fnOf Try.prog 125) (resL fnewC.args x) fnewC.res) =
  (fun x =>
    Tree.br true
      (Tree.need ((0 : Int) ≤ (0 : Int) ∧ (0 : Int) < (16 : Int))
        (Tree.br true
          (Tree.need ((0 : Int) ≤ (1 : Int) ∧ (1 : Int) < (16 : Int))
            (Tree.br true
              (Tree.need ((0 : Int) ≤ (2 : Int) ∧ (2 : Int) < (16 : Int))
                (Tree.br true
                  (Tree.need ((0 : Int) ≤ (3 : Int) ∧ (3 : Int) < (16 : Int))
                    (Tree.br true
                      (Tree.need ((0 : Int) ≤ (4 : Int) ∧ (4 : Int) < (16 : Int))
                        (Tree.br true
                          (Tree.need ((0 : Int) ≤ (5 : Int) ∧ (5 : Int) < (16 : Int))
                            (Tree.br true
                              (Tree.need ((0 : Int) ≤ (6 : Int) ∧ (6 : Int) < (16 : Int))
                                (Tree.br true
                                  (Tree.need ((0 : Int) ≤ (7 : Int) ∧ (7 : Int) < (16 : Int))
                                    (Tree.br true
                                      (Tree.need ((0 : Int) ≤ (8 : Int) ∧ (8 : Int) < (16 : Int))
                                        (Tree.br true
                                          (Tree.need ((0 : Int) ≤ (9 : Int) ∧ (9 : Int) < (16 : Int))
                                            (Tree.br true
                                              (Tree.need ((0 : Int) ≤ (10 : Int) ∧ (10 : Int) < (16 : Int))
                                                (Tree.br true
                                                  (Tree.need ((0 : Int) ≤ (11 : Int) ∧ (11 : Int) < (16 : Int))
                                                    (Tree.br true
                                                      (Tree.need ((0 : Int) ≤ (12 : Int) ∧ (12 : Int) < (16 : Int))
                                                        (Tree.br true
                                                          (Tree.need ((0 : Int) ≤ (13 : Int) ∧ (13 : Int) < (16 : Int))
                                                            (Tree.br true
                                                              (Tree.need ((0 : Int) ≤ (14 : Int) ∧ (14 : Int) < (16 : Int))
                                                                (Tree.br true
                                                                  (Tree.need ((0 : Int) ≤ (15 : Int) ∧ (15 : Int) < (16 : Int))
                                                                    (Tree.br false (Tree.need ((0 : Int) ≤ (16 : Int) ∧ (16 : Int) < (16 : Int)) Tree.stuck)
                                                                      (Tree.leaf
                                                                        (x,
                                                                          [(-1 : Int), (-1 : Int), (-1 : Int), (-1 : Int), (-1 : Int), (-1 : Int), (-1 : Int), (-1 : Int), (-1 : Int), (-1 : Int),
                                                                            (-1 : Int), (-1 : Int), (-1 : Int), (-1 : Int), (-1 : Int), (-1 : Int)],
                                                                          List.replicate (16 : Nat) (((0 : Int), (0 : Int)), (0 : Int), (0 : Int))))))
                                                                  (Tree.leaf
                                                                    (x,
                                                                      [(-1 : Int), (-1 : Int), (-1 : Int), (-1 : Int), (-1 : Int), (-1 : Int), (-1 : Int), (-1 : Int), (-1 : Int), (-1 : Int), (-1 : Int),
                                                                        (-1 : Int), (-1 : Int), (-1 : Int), (-1 : Int), (0 : Int)],
                                                                      List.replicate (16 : Nat) (((0 : Int), (0 : Int)), (0 : Int), (0 : Int))))))
                                                              (Tree.leaf
                                                                (x,
                                                                  [(-1 : Int), (-1 : Int), (-1 : Int), (-1 : Int), (-1 : Int), (-1 : Int), (-1 : Int), (-1 : Int), (-1 : Int), (-1 : Int), (-1 : Int),
                                                                    (-1 : Int), (-1 : Int), (-1 : Int), (0 : Int), (0 : Int)],
                                                                  List.replicate (16 : Nat) (((0 : Int), (0 : Int)), (0 : Int), (0 : Int))))))
                                                          (Tree.leaf
                                                            (x,
                                                              [(-1 : Int), (-1 : Int), (-1 : Int), (-1 : Int), (-1 : Int), (-1 : Int), (-1 : Int), (-1 : Int), (-1 : Int), (-1 : Int), (-1 : Int),
                                                                (-1 : Int), (-1 : Int), (0 : Int), (0 : Int), (0 : Int)],
                                                              List.replicate (16 : Nat) (((0 : Int), (0 : Int)), (0 : Int), (0 : Int))))))
                                                      (Tree.leaf
                                                        (x,
                                                          [(-1 : Int), (-1 : Int), (-1 : Int), (-1 : Int), (-1 : Int), (-1 : Int), (-1 : Int), (-1 : Int), (-1 : Int), (-1 : Int), (-1 : Int), (-1 : Int),
                                                            (0 : Int), (0 : Int), (0 : Int), (0 : Int)],
                                                          List.replicate (16 : Nat) (((0 : Int), (0 : Int)), (0 : Int), (0 : Int))))))
                                                  (Tree.leaf
                                                    (x,
                                                      [(-1 : Int), (-1 : Int), (-1 : Int), (-1 : Int), (-1 : Int), (-1 : Int), (-1 : Int), (-1 : Int), (-1 : Int), (-1 : Int), (-1 : Int), (0 : Int),
                                                        (0 : Int), (0 : Int), (0 : Int), (0 : Int)],
                                                      List.replicate (16 : Nat) (((0 : Int), (0 : Int)), (0 : Int), (0 : Int))))))
                                              (Tree.leaf
                                                (x,
                                                  [(-1 : Int), (-1 : Int), (-1 : Int), (-1 : Int), (-1 : Int), (-1 : Int), (-1 : Int), (-1 : Int), (-1 : Int), (-1 : Int), (0 : Int), (0 : Int),
                                                    (0 : Int), (0 : Int), (0 : Int), (0 : Int)],
                                                  List.replicate (16 : Nat) (((0 : Int), (0 : Int)), (0 : Int), (0 : Int))))))
                                          (Tree.leaf
                                            (x,
                                              [(-1 : Int), (-1 : Int), (-1 : Int), (-1 : Int), (-1 : Int), (-1 : Int), (-1 : Int), (-1 : Int), (-1 : Int), (0 : Int), (0 : Int), (0 : Int), (0 : Int),
                                                (0 : Int), (0 : Int), (0 : Int)],
                                              List.replicate (16 : Nat) (((0 : Int), (0 : Int)), (0 : Int), (0 : Int))))))
                                      (Tree.leaf
                                        (x,
                                          [(-1 : Int), (-1 : Int), (-1 : Int), (-1 : Int), (-1 : Int), (-1 : Int), (-1 : Int), (-1 : Int), (0 : Int), (0 : Int), (0 : Int), (0 : Int), (0 : Int),
                                            (0 : Int), (0 : Int), (0 : Int)],
                                          List.replicate (16 : Nat) (((0 : Int), (0 : Int)), (0 : Int), (0 : Int))))))
                                  (Tree.leaf
                                    (x,
                                      [(-1 : Int), (-1 : Int), (-1 : Int), (-1 : Int), (-1 : Int), (-1 : Int), (-1 : Int), (0 : Int), (0 : Int), (0 : Int), (0 : Int), (0 : Int), (0 : Int), (0 : Int),
                                        (0 : Int), (0 : Int)],
                                      List.replicate (16 : Nat) (((0 : Int), (0 : Int)), (0 : Int), (0 : Int))))))
                              (Tree.leaf
                                (x,
                                  [(-1 : Int), (-1 : Int), (-1 : Int), (-1 : Int), (-1 : Int), (-1 : Int), (0 : Int), (0 : Int), (0 : Int), (0 : Int), (0 : Int), (0 : Int), (0 : Int), (0 : Int),
                                    (0 : Int), (0 : Int)],
                                  List.replicate (16 : Nat) (((0 : Int), (0 : Int)), (0 : Int), (0 : Int))))))
                          (Tree.leaf
                            (x,
                              [(-1 : Int), (-1 : Int), (-1 : Int), (-1 : Int), (-1 : Int), (0 : Int), (0 : Int), (0 : Int), (0 : Int), (0 : Int), (0 : Int), (0 : Int), (0 : Int), (0 : Int), (0 : Int),
                                (0 : Int)],
                              List.replicate (16 : Nat) (((0 : Int), (0 : Int)), (0 : Int), (0 : Int))))))
                      (Tree.leaf
                        (x,
                          [(-1 : Int), (-1 : Int), (-1 : Int), (-1 : Int), (0 : Int), (0 : Int), (0 : Int), (0 : Int), (0 : Int), (0 : Int), (0 : Int), (0 : Int), (0 : Int), (0 : Int), (0 : Int),
                            (0 : Int)],
                          List.replicate (16 : Nat) (((0 : Int), (0 : Int)), (0 : Int), (0 : Int))))))
                  (Tree.leaf
                    (x,
                      [(-1 : Int), (-1 : Int), (-1 : Int), (0 : Int), (0 : Int), (0 : Int), (0 : Int), (0 : Int), (0 : Int), (0 : Int), (0 : Int), (0 : Int), (0 : Int), (0 : Int), (0 : Int), (0 : Int)],
                      List.replicate (16 : Nat) (((0 : Int), (0 : Int)), (0 : Int), (0 : Int))))))
              (Tree.leaf
                (x, [(-1 : Int), (-1 : Int), (0 : Int), (0 : Int), (0 : Int), (0 : Int), (0 : Int), (0 : Int), (0 : Int), (0 : Int), (0 : Int), (0 : Int), (0 : Int), (0 : Int), (0 : Int), (0 : Int)],
                  List.replicate (16 : Nat) (((0 : Int), (0 : Int)), (0 : Int), (0 : Int))))))
          (Tree.leaf
            (x, [(-1 : Int), (0 : Int), (0 : Int), (0 : Int), (0 : Int), (0 : Int), (0 : Int), (0 : Int), (0 : Int), (0 : Int), (0 : Int), (0 : Int), (0 : Int), (0 : Int), (0 : Int), (0 : Int)],
              List.replicate (16 : Nat) (((0 : Int), (0 : Int)), (0 : Int), (0 : Int))))))
      (Tree.leaf (x, List.replicate (16 : Nat) (0 : Int), List.replicate (16 : Nat) (((0 : Int), (0 : Int)), (0 : Int), (0 : Int))))) := by kernel_rfl
theorem fnew_ok : CtrOK Try.prog 125 fnewC :=
  fun_ok (G := []) (Λ := newL) tysOK ctrs_nil mixed (by kernel_rfl) (by kernel_rfl) (by kernel_rfl) (by kernel_rfl) (lp_cons (rounds_ok0 rfl rfl rfl (by kernel_rfl)) lp_nil) fun (x : Int) hw _ => by
    rw [congrFun new_tree x]
    exact holds_val (d := fnewC.fn x) (by kernel_rfl) (by simp [Tree.safe])
def outC : Ctr := { args := [gFib, gParcel], res := [.int .i64, gParcel, .bool], pre := none, fn := fun (x : DFib × DParcel) => outF x.1 x.2 }
def outG : List (Nat × Ctr) := [(35, rightC)]
theorem out_tree : (fun x : DFib × DParcel => evFn (mkC tys outG []) (fnOf Try.prog 75) (resL outC.args x) outC.res) =
  (fun x =>
    Tree.need (((!rightF x.2.2.2.2.1) == false && true) = true → (0 : Int) ≤ x.2.2.2.2.1 ∧ x.2.2.2.2.1 < (16 : Int))
      (Tree.br (bif !rightF x.2.2.2.2.1 then true else !rightF (List.getD x.1.2.1 (Int.toNat x.2.2.2.2.1) (0 : Int)))
        (Tree.leaf ((-1 : Int), ((0 : Int), (((0 : Int), (0 : Int)), (0 : Int), (0 : Int)), (0 : Int), (0 : Int), (0 : Int), []), false))
        (Tree.need ((0 : Int) ≤ x.2.2.2.2.1 ∧ x.2.2.2.2.1 < (16 : Int))
          (Tree.need ((0 : Int) ≤ List.getD x.1.2.1 (Int.toNat x.2.2.2.2.1) (0 : Int) ∧ List.getD x.1.2.1 (Int.toNat x.2.2.2.2.1) (0 : Int) < (16 : Int))
            (Tree.leaf
              (List.getD x.1.2.1 (Int.toNat x.2.2.2.2.1) (0 : Int),
                (x.1.1, List.getD x.1.2.2 (Int.toNat (List.getD x.1.2.1 (Int.toNat x.2.2.2.2.1) (0 : Int))) (((0 : Int), (0 : Int)), (0 : Int), (0 : Int)), x.2.2.2), true)))))) := by kernel_rfl
theorem out_ok : CtrOK Try.prog 75 outC :=
  fun_ok (G := outG) (Λ := []) tysOK (ctrs_cons right_ok ctrs_nil) mixed (by kernel_rfl) (by kernel_rfl) (by kernel_rfl) (by kernel_rfl) lp_nil fun (x : DFib × DParcel) hw _ => by
    rw [congrFun out_tree x]
    exact holds_val (d := outC.fn x) (by kernel_rfl) (by simp [Tree.safe]; exact ⟨fun h => rightF_iff.1 h, fun h h' => ⟨rightF_iff.1 h, rightF_iff.1 h'⟩⟩)
def carryC : Ctr := { args := [gFib, gParcel], res := [.int .i64, gParcel, .int .i64], pre := none, fn := fun (x : DFib × DParcel) => carryF x.1 x.2 }
def carryG : List (Nat × Ctr) := [(76, fateC), (77, hopC), (75, outC)]
theorem carry_tree : (fun x : DFib × DParcel => evFn (mkC tys carryG []) (fnOf Try.prog 33) (resL carryC.args x) carryC.res) =
  (fun x =>
    Tree.br (fateF x.1 x.2 false != (1 : Int)) (Tree.leaf ((-1 : Int), ((0 : Int), (((0 : Int), (0 : Int)), (0 : Int), (0 : Int)), (0 : Int), (0 : Int), (0 : Int), []), fateF x.1 x.2 false))
      (Tree.br
        (geq
          (GTy.prod (GTy.int IntKind.i64)
            (GTy.prod (GTy.prod (GTy.prod (GTy.int IntKind.u32) (GTy.int IntKind.u32)) (GTy.prod (GTy.int IntKind.u32) (GTy.int IntKind.u32)))
              (GTy.prod (GTy.int IntKind.i64) (GTy.prod (GTy.int IntKind.i64) (GTy.prod (GTy.int IntKind.i64) GTy.str)))))
          (hopF x.2 x.1.1 x.2.2.1).1 ((0 : Int), (((0 : Int), (0 : Int)), (0 : Int), (0 : Int)), (0 : Int), (0 : Int), (0 : Int), []))
        (Tree.leaf ((-1 : Int), (hopF x.2 x.1.1 x.2.2.1).1, fateF x.1 x.2 false)) (Tree.leaf ((outF x.1 (hopF x.2 x.1.1 x.2.2.1).1).1, (outF x.1 (hopF x.2 x.1.1 x.2.2.1).1).2.1, fateF x.1 x.2 false)))) := by kernel_rfl
theorem carry_ok : CtrOK Try.prog 33 carryC :=
  fun_ok (G := carryG) (Λ := []) tysOK (ctrs_cons fate_ok (ctrs_cons hop_ok (ctrs_cons out_ok ctrs_nil))) mixed (by kernel_rfl) (by kernel_rfl) (by kernel_rfl) (by kernel_rfl) lp_nil fun (x : DFib × DParcel) hw _ => by
    rw [congrFun carry_tree x]
    exact holds_val (d := carryC.fn x) (by kernel_rfl) (by simp [Tree.safe])
def beginC : Ctr := { args := [gFib, gParcel], res := [.int .i64, gParcel, .int .i64], pre := none, fn := fun (x : DFib × DParcel) => beginF x.1 x.2 }
def beginG : List (Nat × Ctr) := [(76, fateC), (75, outC)]
theorem begin_tree : (fun x : DFib × DParcel => evFn (mkC tys beginG []) (fnOf Try.prog 73) (resL beginC.args x) beginC.res) =
  (fun x =>
    Tree.br (fateF x.1 (x.1.1, x.2.2.1, x.1.1, x.2.2.2.2) true != (1 : Int))
      (Tree.leaf ((-1 : Int), ((0 : Int), (((0 : Int), (0 : Int)), (0 : Int), (0 : Int)), (0 : Int), (0 : Int), (0 : Int), []), fateF x.1 (x.1.1, x.2.2.1, x.1.1, x.2.2.2.2) true))
      (Tree.leaf ((outF x.1 (x.1.1, x.2.2.1, x.1.1, x.2.2.2.2)).1, (outF x.1 (x.1.1, x.2.2.1, x.1.1, x.2.2.2.2)).2.1, fateF x.1 (x.1.1, x.2.2.1, x.1.1, x.2.2.2.2) true))) := by kernel_rfl
theorem begin_ok : CtrOK Try.prog 73 beginC :=
  fun_ok (G := beginG) (Λ := []) tysOK (ctrs_cons fate_ok (ctrs_cons out_ok ctrs_nil)) mixed (by kernel_rfl) (by kernel_rfl) (by kernel_rfl) (by kernel_rfl) lp_nil fun (x : DFib × DParcel) hw _ => by
    rw [congrFun begin_tree x]
    exact holds_val (d := beginC.fn x) (by kernel_rfl) (by simp [Tree.safe])
def some34C : Ctr := { args := [], res := [gFib], pre := none, fn := fun (x : Unit) => someFib }
def some34G : List (Nat × Ctr) := [(125, fnewC)]
theorem some34_tree : (fun x : Unit => evFn (mkC tys some34G []) (fnOf Try.prog 74) (resL some34C.args x) some34C.res) =
  (fun x =>
    Tree.leaf
      ((1 : Int),
        [(-1 : Int), (-1 : Int), (-1 : Int), (2 : Int), (-1 : Int), (-1 : Int), (-1 : Int), (-1 : Int), (-1 : Int), (-1 : Int), (-1 : Int), (-1 : Int), (-1 : Int), (-1 : Int), (-1 : Int), (-1 : Int)],
        [(((0 : Int), (0 : Int)), (0 : Int), (0 : Int)), (((0 : Int), (0 : Int)), (0 : Int), (0 : Int)), (((1 : Int), (0 : Int)), (2 : Int), (0 : Int)), (((0 : Int), (0 : Int)), (0 : Int), (0 : Int)),
          (((1 : Int), (0 : Int)), (9 : Int), (0 : Int)), (((0 : Int), (0 : Int)), (0 : Int), (0 : Int)), (((0 : Int), (0 : Int)), (0 : Int), (0 : Int)), (((0 : Int), (0 : Int)), (0 : Int), (0 : Int)),
          (((0 : Int), (0 : Int)), (0 : Int), (0 : Int)), (((0 : Int), (0 : Int)), (0 : Int), (0 : Int)), (((0 : Int), (0 : Int)), (0 : Int), (0 : Int)), (((0 : Int), (0 : Int)), (0 : Int), (0 : Int)),
          (((0 : Int), (0 : Int)), (0 : Int), (0 : Int)), (((0 : Int), (0 : Int)), (0 : Int), (0 : Int)), (((0 : Int), (0 : Int)), (0 : Int), (0 : Int)), (((0 : Int), (0 : Int)), (0 : Int), (0 : Int))])) := by kernel_rfl
theorem some34_ok : CtrOK Try.prog 74 some34C :=
  fun_ok (G := some34G) (Λ := []) tysOK (ctrs_cons fnew_ok ctrs_nil) mixed (by kernel_rfl) (by kernel_rfl) (by kernel_rfl) (by kernel_rfl) lp_nil fun (x : Unit) hw _ => by
    rw [congrFun some34_tree x]
    exact holds_val (d := some34C.fn x) (by kernel_rfl) (by simp [Tree.safe])
def awake34C : Ctr := { args := [], res := [.bool], pre := none, fn := fun (x : Unit) => true }
def awake34G : List (Nat × Ctr) := [(74, some34C), (73, beginC), (33, carryC), (75, outC), (30, swapC)]
theorem awake34_tree : (fun x : Unit => evFn (mkC tys awake34G []) (fnOf Try.prog 32) (resL awake34C.args x) awake34C.res) =
  (fun x => Tree.leaf true) := by kernel_rfl
theorem awake34_ok : CtrOK Try.prog 32 awake34C :=
  fun_ok (G := awake34G) (Λ := []) tysOK (ctrs_cons some34_ok (ctrs_cons begin_ok (ctrs_cons carry_ok (ctrs_cons out_ok (ctrs_cons swap_ok ctrs_nil))))) mixed (by kernel_rfl) (by kernel_rfl) (by kernel_rfl) (by kernel_rfl) lp_nil fun (x : Unit) hw _ => by
    rw [congrFun awake34_tree x]
    exact holds_val (d := awake34C.fn x) (by kernel_rfl) (by simp [Tree.safe])
def keepsG : List (Nat × Ctr) := [(32, awake34C), (33, carryC), (34, prightC), (35, rightC)]
theorem keepsG_ok : CtrsOK Try.prog (fun f => lk f keepsG) := (ctrs_cons awake34_ok (ctrs_cons carry_ok (ctrs_cons pright_ok (ctrs_cons right_ok ctrs_nil))))
def keepsC : Ctr := { args := [gFib, gParcel], res := [.bool], pre := some (smallD [gFib, gParcel]), fn := fun _ => true }
theorem keeps_tree : (fun x : DFib × DParcel => evFn (mkC tys keepsG []) (fnOf Try.prog 7) (resL keepsC.args x) keepsC.res) =
  (fun x =>
    Tree.br (decide ((↑(List.length x.2.2.2.2.2.2) : Int) > (500 : Int))) (Tree.leaf true)
      (Tree.br ((carryF x.1 x.2).2.2 != (1 : Int))
        (Tree.leaf
          (bif
              bif (carryF x.1 x.2).1 == (-1 : Int) then
                geq
                  (GTy.prod (GTy.int IntKind.i64)
                    (GTy.prod (GTy.prod (GTy.prod (GTy.int IntKind.u32) (GTy.int IntKind.u32)) (GTy.prod (GTy.int IntKind.u32) (GTy.int IntKind.u32)))
                      (GTy.prod (GTy.int IntKind.i64) (GTy.prod (GTy.int IntKind.i64) (GTy.prod (GTy.int IntKind.i64) GTy.str)))))
                  (carryF x.1 x.2).2.1 ((0 : Int), (((0 : Int), (0 : Int)), (0 : Int), (0 : Int)), (0 : Int), (0 : Int), (0 : Int), [])
              else false then
            true
          else false))
        (Tree.need (((!prightF x.2) == false && true) = true → (0 : Int) ≤ x.2.2.2.2.1 ∧ x.2.2.2.2.1 < (16 : Int))
          (Tree.br (bif !prightF x.2 then true else !rightF (List.getD x.1.2.1 (Int.toNat x.2.2.2.2.1) (0 : Int))) (Tree.leaf false)
            (Tree.need ((0 : Int) ≤ x.2.2.2.2.1 ∧ x.2.2.2.2.1 < (16 : Int))
              (Tree.need
                (((bif
                            bif
                                bif
                                    bif bif (carryF x.1 x.2).1 == List.getD x.1.2.1 (Int.toNat x.2.2.2.2.1) (0 : Int) then (carryF x.1 x.2).2.1.2.2.2.2.2 == x.2.2.2.2.2.2 else false then
                                      (carryF x.1 x.2).2.1.2.2.1 == x.2.2.2.1
                                    else false then
                                  (carryF x.1 x.2).2.1.2.2.2.1 == x.2.2.2.2.1
                                else false then
                              (carryF x.1 x.2).2.1.2.2.2.2.1 == IntKind.wrap IntKind.i64 (x.2.2.2.2.2.1 - (1 : Int))
                            else false then
                          (carryF x.1 x.2).2.1.1 == x.1.1
                        else false) ==
                        true &&
                      true) =
                    true →
                  (0 : Int) ≤ (carryF x.1 x.2).1 ∧ (carryF x.1 x.2).1 < (16 : Int))
                (Tree.leaf
                  (bif
                      bif
                          bif
                              bif
                                  bif
                                      bif bif (carryF x.1 x.2).1 == List.getD x.1.2.1 (Int.toNat x.2.2.2.2.1) (0 : Int) then (carryF x.1 x.2).2.1.2.2.2.2.2 == x.2.2.2.2.2.2 else false then
                                        (carryF x.1 x.2).2.1.2.2.1 == x.2.2.2.1
                                      else false then
                                    (carryF x.1 x.2).2.1.2.2.2.1 == x.2.2.2.2.1
                                  else false then
                                (carryF x.1 x.2).2.1.2.2.2.2.1 == IntKind.wrap IntKind.i64 (x.2.2.2.2.2.1 - (1 : Int))
                              else false then
                            (carryF x.1 x.2).2.1.1 == x.1.1
                          else false then
                        geq (GTy.prod (GTy.prod (GTy.int IntKind.u32) (GTy.int IntKind.u32)) (GTy.prod (GTy.int IntKind.u32) (GTy.int IntKind.u32))) (carryF x.1 x.2).2.1.2.1
                          (List.getD x.1.2.2 (Int.toNat (carryF x.1 x.2).1) (((0 : Int), (0 : Int)), (0 : Int), (0 : Int)))
                      else false then
                    true
                  else false)))))))) := by kernel_rfl
theorem keeps_ok : CtrOK Try.prog 7 keepsC :=
  fun_ok (G := keepsG) (Λ := []) tysOK keepsG_ok mixed (by kernel_rfl) (by kernel_rfl) (by kernel_rfl) (by kernel_rfl) lp_nil fun (x : DFib × DParcel) hw _ => by
    rw [congrFun keeps_tree x]
    simp only [Tree.holds]
    refine ⟨fun _ => rfl, fun _ => ⟨fun h => ?_, fun h => ?_⟩⟩
    · rw [carry_fate] at h
      rw [carry_off h]
      rfl
    · rw [carry_fate] at h
      have h1 : fateF x.1 x.2 false = 1 := by simpa using h
      obtain ⟨hp, hr, _⟩ := fate_on h1
      have hn : (carryF x.1 x.2).1 = nextOf x.1 x.2 := by rw [carry_on h1]
      unfold nextOf at hr
      refine ⟨fun _ => prightF_dst hp, fun h2 => ?_, fun _ => ⟨prightF_dst hp, fun _ => ?_, keeps_yes h1⟩⟩
      · rw [hp, hr] at h2
        cases h2
      · rw [hn]
        exact rightF_iff.1 hr
end Go.Ev.P
