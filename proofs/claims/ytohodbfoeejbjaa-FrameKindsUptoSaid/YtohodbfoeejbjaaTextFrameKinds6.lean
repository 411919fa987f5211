/- The functions of 'fwd' and what they call keep their contracts. -/
import Derived.Test.YtohodbfoeejbjaaTextFrameKinds5

set_option linter.unusedVariables false
set_option linter.unusedSimpArgs false
namespace Go.Ev.P
open Go.Proofs
def rightC : Ctr := { args := [.int .i64], res := [.bool], pre := none, fn := fun (x : Int) => rightF x }
def rightG : List (Nat × Ctr) := []
theorem right_tree : (fun x : Int => evFn (mkC tys rightG []) (fnOf Try.prog 35) (resL rightC.args x) rightC.res) =
  (fun x => Tree.leaf (bif decide (x ≥ (0 : Int)) then decide (x < (16 : Int)) else false)) := by kernel_rfl
theorem right_ok : CtrOK Try.prog 35 rightC :=
  fun_ok (G := rightG) (Λ := []) tysOK ctrs_nil mixed (by kernel_rfl) (by kernel_rfl) (by kernel_rfl) (by kernel_rfl) lp_nil fun (x : Int) hw _ => by
    rw [congrFun right_tree x]
    exact holds_val (d := rightC.fn x) (by kernel_rfl) (by simp [Tree.safe])
def prightC : Ctr := { args := [gParcel], res := [.bool], pre := none, fn := fun (x : DParcel) => prightF x }
def prightG : List (Nat × Ctr) := [(35, rightC)]
theorem pright_tree : (fun x : DParcel => evFn (mkC tys prightG []) (fnOf Try.prog 34) (resL prightC.args x) prightC.res) =
  (fun x =>
    Tree.leaf
      (bif
          bif bif bif bif rightF x.1 then rightF x.2.2.1 else false then rightF x.2.2.2.1 else false then decide (x.2.2.2.2.1 ≥ (1 : Int)) else false then decide (x.2.2.2.2.1 ≤ (64 : Int))
          else false then
        decide ((↑(List.length x.2.2.2.2.2) : Int) ≤ (64 : Int))
      else false)) := by kernel_rfl
theorem pright_ok : CtrOK Try.prog 34 prightC :=
  fun_ok (G := prightG) (Λ := []) tysOK (ctrs_cons right_ok ctrs_nil) mixed (by kernel_rfl) (by kernel_rfl) (by kernel_rfl) (by kernel_rfl) lp_nil fun (x : DParcel) hw _ => by
    rw [congrFun pright_tree x]
    exact holds_val (d := prightC.fn x) (by kernel_rfl) (by simp [Tree.safe])
def hoppedC : Ctr := { args := [gParcel, .int .i64, gPair], res := [gParcel], pre := none, fn := fun (x : DParcel × Int × DPair) => hoppedF x.1 x.2.1 x.2.2 }
def hoppedG : List (Nat × Ctr) := []
theorem hopped_tree : (fun x : DParcel × Int × DPair => evFn (mkC tys hoppedG []) (fnOf Try.prog 127) (resL hoppedC.args x) hoppedC.res) =
  (fun x =>
    Tree.br (decide (x.1.2.2.2.2.1 ≤ (1 : Int))) (Tree.leaf ((0 : Int), (((0 : Int), (0 : Int)), (0 : Int), (0 : Int)), (0 : Int), (0 : Int), (0 : Int), []))
      (Tree.leaf (x.2.1, x.2.2, x.1.2.2.1, x.1.2.2.2.1, IntKind.wrap IntKind.i64 (x.1.2.2.2.2.1 - (1 : Int)), x.1.2.2.2.2.2))) := by kernel_rfl
theorem hopped_ok : CtrOK Try.prog 127 hoppedC :=
  fun_ok (G := hoppedG) (Λ := []) tysOK ctrs_nil mixed (by kernel_rfl) (by kernel_rfl) (by kernel_rfl) (by kernel_rfl) lp_nil fun (x : DParcel × Int × DPair) hw _ => by
    rw [congrFun hopped_tree x]
    exact holds_val (d := hoppedC.fn x) (by kernel_rfl) (by simp [Tree.safe])
def hopC : Ctr := { args := [gParcel, .int .i64, gPair], res := [gParcel, .bool], pre := none, fn := fun (x : DParcel × Int × DPair) => hopF x.1 x.2.1 x.2.2 }
def hopG : List (Nat × Ctr) := [(127, hoppedC)]
theorem hop_tree : (fun x : DParcel × Int × DPair => evFn (mkC tys hopG []) (fnOf Try.prog 77) (resL hopC.args x) hopC.res) =
  (fun x =>
    Tree.leaf
      (hoppedF x.1 x.2.1 x.2.2,
        !geq
            (GTy.prod (GTy.int IntKind.i64)
              (GTy.prod (GTy.prod (GTy.prod (GTy.int IntKind.u32) (GTy.int IntKind.u32)) (GTy.prod (GTy.int IntKind.u32) (GTy.int IntKind.u32)))
                (GTy.prod (GTy.int IntKind.i64) (GTy.prod (GTy.int IntKind.i64) (GTy.prod (GTy.int IntKind.i64) GTy.str)))))
            (hoppedF x.1 x.2.1 x.2.2) ((0 : Int), (((0 : Int), (0 : Int)), (0 : Int), (0 : Int)), (0 : Int), (0 : Int), (0 : Int), []))) := by kernel_rfl
theorem hop_ok : CtrOK Try.prog 77 hopC :=
  fun_ok (G := hopG) (Λ := []) tysOK (ctrs_cons hopped_ok ctrs_nil) mixed (by kernel_rfl) (by kernel_rfl) (by kernel_rfl) (by kernel_rfl) lp_nil fun (x : DParcel × Int × DPair) hw _ => by
    rw [congrFun hop_tree x]
    exact holds_val (d := hopC.fn x) (by kernel_rfl) (by simp [Tree.safe])
def oldC : Ctr := { args := [gFib, gParcel], res := [.bool], pre := none, fn := fun (x : DFib × DParcel) => oldF x.1 x.2 }
def oldG : List (Nat × Ctr) := [(35, rightC), (31, sameC)]
theorem old_tree : (fun x : DFib × DParcel => evFn (mkC tys oldG []) (fnOf Try.prog 126) (resL oldC.args x) oldC.res) =
  (fun x =>
    Tree.need (((bif !rightF x.2.1 then true else x.2.1 == x.1.1) == false && true) = true → (0 : Int) ≤ x.2.1 ∧ x.2.1 < (16 : Int))
      (Tree.leaf (bif bif !rightF x.2.1 then true else x.2.1 == x.1.1 then true else !sameF (List.getD x.1.2.2 (Int.toNat x.2.1) (((0 : Int), (0 : Int)), (0 : Int), (0 : Int))) x.2.2.1))) := by kernel_rfl
theorem old_ok : CtrOK Try.prog 126 oldC :=
  fun_ok (G := oldG) (Λ := []) tysOK (ctrs_cons right_ok (ctrs_cons same_ok ctrs_nil)) mixed (by kernel_rfl) (by kernel_rfl) (by kernel_rfl) (by kernel_rfl) lp_nil fun (x : DFib × DParcel) hw _ => by
    rw [congrFun old_tree x]
    exact holds_val (d := oldC.fn x) (by kernel_rfl) (by simp only [Tree.safe, and_true]; intro h; refine rightF_iff.1 ?_; cases hr : rightF x.2.1 <;> simp [hr] at h ⊢)
def fateC : Ctr := { args := [gFib, gParcel, .bool], res := [.int .i64], pre := none, fn := fun (x : DFib × DParcel × Bool) => fateF x.1 x.2.1 x.2.2 }
def fateG : List (Nat × Ctr) := [(35, rightC), (34, prightC), (126, oldC)]
theorem fate_tree : (fun x : DFib × DParcel × Bool => evFn (mkC tys fateG []) (fnOf Try.prog 76) (resL fateC.args x) fateC.res) =
  (fun x =>
    Tree.br (!prightF x.2.1) (Tree.leaf (3 : Int))
      (Tree.br (bif !x.2.2 then oldF x.1 x.2.1 else false) (Tree.leaf (4 : Int))
        (Tree.br (x.2.1.2.2.2.1 == x.1.1) (Tree.leaf (0 : Int))
          (Tree.br (bif !x.2.2 then x.2.1.2.2.1 == x.1.1 else false) (Tree.leaf (5 : Int))
            (Tree.need ((0 : Int) ≤ x.2.1.2.2.2.1 ∧ x.2.1.2.2.2.1 < (16 : Int))
              (Tree.br (!rightF (List.getD x.1.2.1 (Int.toNat x.2.1.2.2.2.1) (0 : Int))) (Tree.leaf (3 : Int))
                (Tree.br (bif !x.2.2 then decide (x.2.1.2.2.2.2.1 ≤ (1 : Int)) else false) (Tree.leaf (2 : Int)) (Tree.leaf (1 : Int))))))))) := by kernel_rfl
theorem fate_ok : CtrOK Try.prog 76 fateC :=
  fun_ok (G := fateG) (Λ := []) tysOK (ctrs_cons right_ok (ctrs_cons pright_ok (ctrs_cons old_ok ctrs_nil))) mixed (by kernel_rfl) (by kernel_rfl) (by kernel_rfl) (by kernel_rfl) lp_nil fun (x : DFib × DParcel × Bool) hw _ => by
    rw [congrFun fate_tree x]
    exact holds_val (d := fateC.fn x) (by kernel_rfl) (by simp only [Tree.safe]; refine ⟨fun _ => trivial, fun h => ⟨fun _ => trivial, fun _ => ⟨fun _ => trivial, fun _ => ⟨fun _ => trivial, fun _ => ⟨prightF_dst (by simpa using h), ?_⟩⟩⟩⟩⟩; simp [Tree.safe])
noncomputable def newL : List (Nat × LoopSpec) := [(0, rounds (mkC tys [] []) (loopB 0 (bodyOf (fnOf Try.prog 125))) [] [3, 7] [3] 17)]
def fnewC : Ctr := { args := [.int .i64], res := [gFib], pre := none, fn := fun (x : Int) => fib0 x }
theorem new_tree : (fun x : Int => evFn (mkC tys [] newL) (fnOf Try.prog 125) (resL fnewC.args x) fnewC.res) =
  (fun x =>
    Tree.br true
      (Tree.need ((0 : Int) ≤ (0 : Int) ∧ (0 : Int) < (16 : Int))
        (Tree.br true
          (Tree.need ((0 : Int) ≤ (1 : Int) ∧ (1 : Int) < (16 : Int))
            (Tree.br true
              (Tree.need ((0 : Int) ≤ (2 : Int) ∧ (2 : Int) < (16 : Int))
                (Tree.br true
                  (Tree.need ((0 : Int) ≤ (3 : Int) ∧ (3 : Int) < (16 : Int))
                    (Tree.br true
                      (Tree.need ((0 : Int) ≤ (4 : Int) ∧ (4 : Int) < (16 : Int))
                        (Tree.br true
                          (Tree.need ((0 : Int) ≤ (5 : Int) ∧ (5 : Int) < (16 : Int))
                            (Tree.br true
                              (Tree.need ((0 : Int) ≤ (6 : Int) ∧ (6 : Int) < (16 : Int))
                                (Tree.br true
                                  (Tree.need ((0 : Int) ≤ (7 : Int) ∧ (7 : Int) < (16 : Int))
                                    (Tree.br true
                                      (Tree.need ((0 : Int) ≤ (8 : Int) ∧ (8 : Int) < (16 : Int))
                                        (Tree.br true
                                          (Tree.need ((0 : Int) ≤ (9 : Int) ∧ (9 : Int) < (16 : Int))
                                            (Tree.br true
                                              (Tree.need ((0 : Int) ≤ (10 : Int) ∧ (10 : Int) < (16 : Int))
                                                (Tree.br true
                                                  (Tree.need ((0 : Int) ≤ (11 : Int) ∧ (11 : Int) < (16 : Int))
                                                    (Tree.br true
                                                      (Tree.need ((0 : Int) ≤ (12 : Int) ∧ (12 : Int) < (16 : Int))
                                                        (Tree.br true
                                                          (Tree.need ((0 : Int) ≤ (13 : Int) ∧ (13 : Int) < (16 : Int))
                                                            (Tree.br true
                                                              (Tree.need ((0 : Int) ≤ (14 : Int) ∧ (14 : Int) < (16 : Int))
                                                                (Tree.br true
                                                                  (Tree.need ((0 : Int) ≤ (15 : Int) ∧ (15 : Int) < (16 : Int))
                                                                    (Tree.br false (Tree.need ((0 : Int) ≤ (16 : Int) ∧ (16 : Int) < (16 : Int)) Tree.stuck)
                                                                      (Tree.leaf
                                                                        (x,
                                                                          [(-1 : Int), (-1 : Int), (-1 : Int), (-1 : Int), (-1 : Int), (-1 : Int), (-1 : Int), (-1 : Int), (-1 : Int), (-1 : Int),
                                                                            (-1 : Int), (-1 : Int), (-1 : Int), (-1 : Int), (-1 : Int), (-1 : Int)],
                                                                          List.replicate (16 : Nat) (((0 : Int), (0 : Int)), (0 : Int), (0 : Int))))))
                                                                  (Tree.leaf
                                                                    (x,
                                                                      [(-1 : Int), (-1 : Int), (-1 : Int), (-1 : Int), (-1 : Int), (-1 : Int), (-1 : Int), (-1 : Int), (-1 : Int), (-1 : Int), (-1 : Int),
                                                                        (-1 : Int), (-1 : Int), (-1 : Int), (-1 : Int), (0 : Int)],
                                                                      List.replicate (16 : Nat) (((0 : Int), (0 : Int)), (0 : Int), (0 : Int))))))
                                                              (Tree.leaf
                                                                (x,
                                                                  [(-1 : Int), (-1 : Int), (-1 : Int), (-1 : Int), (-1 : Int), (-1 : Int), (-1 : Int), (-1 : Int), (-1 : Int), (-1 : Int), (-1 : Int),
                                                                    (-1 : Int), (-1 : Int), (-1 : Int), (0 : Int), (0 : Int)],
                                                                  List.replicate (16 : Nat) (((0 : Int), (0 : Int)), (0 : Int), (0 : Int))))))
                                                          (Tree.leaf
                                                            (x,
                                                              [(-1 : Int), (-1 : Int), (-1 : Int), (-1 : Int), (-1 : Int), (-1 : Int), (-1 : Int), (-1 : Int), (-1 : Int), (-1 : Int), (-1 : Int),
                                                                (-1 : Int), (-1 : Int), (0 : Int), (0 : Int), (0 : Int)],
                                                              List.replicate (16 : Nat) (((0 : Int), (0 : Int)), (0 : Int), (0 : Int))))))
                                                      (Tree.leaf
                                                        (x,
                                                          [(-1 : Int), (-1 : Int), (-1 : Int), (-1 : Int), (-1 : Int), (-1 : Int), (-1 : Int), (-1 : Int), (-1 : Int), (-1 : Int), (-1 : Int), (-1 : Int),
                                                            (0 : Int), (0 : Int), (0 : Int), (0 : Int)],
                                                          List.replicate (16 : Nat) (((0 : Int), (0 : Int)), (0 : Int), (0 : Int))))))
                                                  (Tree.leaf
                                                    (x,
                                                      [(-1 : Int), (-1 : Int), (-1 : Int), (-1 : Int), (-1 : Int), (-1 : Int), (-1 : Int), (-1 : Int), (-1 : Int), (-1 : Int), (-1 : Int), (0 : Int),
                                                        (0 : Int), (0 : Int), (0 : Int), (0 : Int)],
                                                      List.replicate (16 : Nat) (((0 : Int), (0 : Int)), (0 : Int), (0 : Int))))))
                                              (Tree.leaf
                                                (x,
                                                  [(-1 : Int), (-1 : Int), (-1 : Int), (-1 : Int), (-1 : Int), (-1 : Int), (-1 : Int), (-1 : Int), (-1 : Int), (-1 : Int), (0 : Int), (0 : Int),
                                                    (0 : Int), (0 : Int), (0 : Int), (0 : Int)],
                                                  List.replicate (16 : Nat) (((0 : Int), (0 : Int)), (0 : Int), (0 : Int))))))
                                          (Tree.leaf
                                            (x,
                                              [(-1 : Int), (-1 : Int), (-1 : Int), (-1 : Int), (-1 : Int), (-1 : Int), (-1 : Int), (-1 : Int), (-1 : Int), (0 : Int), (0 : Int), (0 : Int), (0 : Int),
                                                (0 : Int), (0 : Int), (0 : Int)],
                                              List.replicate (16 : Nat) (((0 : Int), (0 : Int)), (0 : Int), (0 : Int))))))
                                      (Tree.leaf
                                        (x,
                                          [(-1 : Int), (-1 : Int), (-1 : Int), (-1 : Int), (-1 : Int), (-1 : Int), (-1 : Int), (-1 : Int), (0 : Int), (0 : Int), (0 : Int), (0 : Int), (0 : Int),
                                            (0 : Int), (0 : Int), (0 : Int)],
                                          List.replicate (16 : Nat) (((0 : Int), (0 : Int)), (0 : Int), (0 : Int))))))
                                  (Tree.leaf
                                    (x,
                                      [(-1 : Int), (-1 : Int), (-1 : Int), (-1 : Int), (-1 : Int), (-1 : Int), (-1 : Int), (0 : Int), (0 : Int), (0 : Int), (0 : Int), (0 : Int), (0 : Int), (0 : Int),
                                        (0 : Int), (0 : Int)],
                                      List.replicate (16 : Nat) (((0 : Int), (0 : Int)), (0 : Int), (0 : Int))))))
                              (Tree.leaf
                                (x,
                                  [(-1 : Int), (-1 : Int), (-1 : Int), (-1 : Int), (-1 : Int), (-1 : Int), (0 : Int), (0 : Int), (0 : Int), (0 : Int), (0 : Int), (0 : Int), (0 : Int), (0 : Int),
                                    (0 : Int), (0 : Int)],
                                  List.replicate (16 : Nat) (((0 : Int), (0 : Int)), (0 : Int), (0 : Int))))))
                          (Tree.leaf
                            (x,
                              [(-1 : Int), (-1 : Int), (-1 : Int), (-1 : Int), (-1 : Int), (0 : Int), (0 : Int), (0 : Int), (0 : Int), (0 : Int), (0 : Int), (0 : Int), (0 : Int), (0 : Int), (0 : Int),
                                (0 : Int)],
                              List.replicate (16 : Nat) (((0 : Int), (0 : Int)), (0 : Int), (0 : Int))))))
                      (Tree.leaf
                        (x,
                          [(-1 : Int), (-1 : Int), (-1 : Int), (-1 : Int), (0 : Int), (0 : Int), (0 : Int), (0 : Int), (0 : Int), (0 : Int), (0 : Int), (0 : Int), (0 : Int), (0 : Int), (0 : Int),
                            (0 : Int)],
                          List.replicate (16 : Nat) (((0 : Int), (0 : Int)), (0 : Int), (0 : Int))))))
                  (Tree.leaf
                    (x,
                      [(-1 : Int), (-1 : Int), (-1 : Int), (0 : Int), (0 : Int), (0 : Int), (0 : Int), (0 : Int), (0 : Int), (0 : Int), (0 : Int), (0 : Int), (0 : Int), (0 : Int), (0 : Int), (0 : Int)],
                      List.replicate (16 : Nat) (((0 : Int), (0 : Int)), (0 : Int), (0 : Int))))))
              (Tree.leaf
                (x, [(-1 : Int), (-1 : Int), (0 : Int), (0 : Int), (0 : Int), (0 : Int), (0 : Int), (0 : Int), (0 : Int), (0 : Int), (0 : Int), (0 : Int), (0 : Int), (0 : Int), (0 : Int), (0 : Int)],
                  List.replicate (16 : Nat) (((0 : Int), (0 : Int)), (0 : Int), (0 : Int))))))
          (Tree.leaf
            (x, [(-1 : Int), (0 : Int), (0 : Int), (0 : Int), (0 : Int), (0 : Int), (0 : Int), (0 : Int), (0 : Int), (0 : Int), (0 : Int), (0 : Int), (0 : Int), (0 : Int), (0 : Int), (0 : Int)],
              List.replicate (16 : Nat) (((0 : Int), (0 : Int)), (0 : Int), (0 : Int))))))
      (Tree.leaf (x, List.replicate (16 : Nat) (0 : Int), List.replicate (16 : Nat) (((0 : Int), (0 : Int)), (0 : Int), (0 : Int))))) := by kernel_rfl
theorem fnew_ok : CtrOK Try.prog 125 fnewC :=
  fun_ok (G := []) (Λ := newL) tysOK ctrs_nil mixed (by kernel_rfl) (by kernel_rfl) (by kernel_rfl) (by kernel_rfl) (lp_cons (rounds_ok0 rfl rfl rfl (by kernel_rfl)) lp_nil) fun (x : Int) hw _ => by
    rw [congrFun new_tree x]
    exact holds_val (d := fnewC.fn x) (by kernel_rfl) (by simp [Tree.safe])
def outC : Ctr := { args := [gFib, gParcel], res := [.int .i64, gParcel, .bool], pre := none, fn := fun (x : DFib × DParcel) => outF x.1 x.2 }
def outG : List (Nat × Ctr) := [(35, rightC)]
theorem out_tree : (fun x : DFib × DParcel => evFn (mkC tys outG []) (fnOf Try.prog 75) (resL outC.args x) outC.res) =
  (fun x =>
    Tree.need (((!rightF x.2.2.2.2.1) == false && true) = true → (0 : Int) ≤ x.2.2.2.2.1 ∧ x.2.2.2.2.1 < (16 : Int))
      (Tree.br (bif !rightF x.2.2.2.2.1 then true else !rightF (List.getD x.1.2.1 (Int.toNat x.2.2.2.2.1) (0 : Int)))
        (Tree.leaf ((-1 : Int), ((0 : Int), (((0 : Int), (0 : Int)), (0 : Int), (0 : Int)), (0 : Int), (0 : Int), (0 : Int), []), false))
        (Tree.need ((0 : Int) ≤ x.2.2.2.2.1 ∧ x.2.2.2.2.1 < (16 : Int))
          (Tree.need ((0 : Int) ≤ List.getD x.1.2.1 (Int.toNat x.2.2.2.2.1) (0 : Int) ∧ List.getD x.1.2.1 (Int.toNat x.2.2.2.2.1) (0 : Int) < (16 : Int))
            (Tree.leaf
              (List.getD x.1.2.1 (Int.toNat x.2.2.2.2.1) (0 : Int),
                (x.1.1, List.getD x.1.2.2 (Int.toNat (List.getD x.1.2.1 (Int.toNat x.2.2.2.2.1) (0 : Int))) (((0 : Int), (0 : Int)), (0 : Int), (0 : Int)), x.2.2.2), true)))))) := by kernel_rfl
theorem out_ok : CtrOK Try.prog 75 outC :=
  fun_ok (G := outG) (Λ := []) tysOK (ctrs_cons right_ok ctrs_nil) mixed (by kernel_rfl) (by kernel_rfl) (by kernel_rfl) (by kernel_rfl) lp_nil fun (x : DFib × DParcel) hw _ => by
    rw [congrFun out_tree x]
    exact holds_val (d := outC.fn x) (by kernel_rfl) (by simp [Tree.safe]; exact ⟨fun h => rightF_iff.1 h, fun h h' => ⟨rightF_iff.1 h, rightF_iff.1 h'⟩⟩)
def carryC : Ctr := { args := [gFib, gParcel], res := [.int .i64, gParcel, .int .i64], pre := none, fn := fun (x : DFib × DParcel) => carryF x.1 x.2 }
def carryG : List (Nat × Ctr) := [(76, fateC), (77, hopC), (75, outC)]
theorem carry_tree : (fun x : DFib × DParcel => evFn (mkC tys carryG []) (fnOf Try.prog 33) (resL carryC.args x) carryC.res) =
  (fun x =>
    Tree.br (fateF x.1 x.2 false != (1 : Int)) (Tree.leaf ((-1 : Int), ((0 : Int), (((0 : Int), (0 : Int)), (0 : Int), (0 : Int)), (0 : Int), (0 : Int), (0 : Int), []), fateF x.1 x.2 false))
      (Tree.br
        (geq
          (GTy.prod (GTy.int IntKind.i64)
            (GTy.prod (GTy.prod (GTy.prod (GTy.int IntKind.u32) (GTy.int IntKind.u32)) (GTy.prod (GTy.int IntKind.u32) (GTy.int IntKind.u32)))
              (GTy.prod (GTy.int IntKind.i64) (GTy.prod (GTy.int IntKind.i64) (GTy.prod (GTy.int IntKind.i64) GTy.str)))))
          (hopF x.2 x.1.1 x.2.2.1).1 ((0 : Int), (((0 : Int), (0 : Int)), (0 : Int), (0 : Int)), (0 : Int), (0 : Int), (0 : Int), []))
        (Tree.leaf ((-1 : Int), (hopF x.2 x.1.1 x.2.2.1).1, fateF x.1 x.2 false)) (Tree.leaf ((outF x.1 (hopF x.2 x.1.1 x.2.2.1).1).1, (outF x.1 (hopF x.2 x.1.1 x.2.2.1).1).2.1, fateF x.1 x.2 false)))) := by kernel_rfl
theorem carry_ok : CtrOK Try.prog 33 carryC :=
  fun_ok (G := carryG) (Λ := []) tysOK (ctrs_cons fate_ok (ctrs_cons hop_ok (ctrs_cons out_ok ctrs_nil))) mixed (by kernel_rfl) (by kernel_rfl) (by kernel_rfl) (by kernel_rfl) lp_nil fun (x : DFib × DParcel) hw _ => by
    rw [congrFun carry_tree x]
    exact holds_val (d := carryC.fn x) (by kernel_rfl) (by simp [Tree.safe])
def beginC : Ctr := { args := [gFib, gParcel], res := [.int .i64, gParcel, .int .i64], pre := none, fn := fun (x : DFib × DParcel) => beginF x.1 x.2 }
def beginG : List (Nat × Ctr) := [(76, fateC), (75, outC)]
theorem begin_tree : (fun x : DFib × DParcel => evFn (mkC tys beginG []) (fnOf Try.prog 73) (resL beginC.args x) beginC.res) =
  (fun x =>
    Tree.br (fateF x.1 (x.1.1, x.2.2.1, x.1.1, x.2.2.2.2) true != (1 : Int))
      (Tree.leaf ((-1 : Int), ((0 : Int), (((0 : Int), (0 : Int)), (0 : Int), (0 : Int)), (0 : Int), (0 : Int), (0 : Int), []), fateF x.1 (x.1.1, x.2.2.1, x.1.1, x.2.2.2.2) true))
      (Tree.leaf ((outF x.1 (x.1.1, x.2.2.1, x.1.1, x.2.2.2.2)).1, (outF x.1 (x.1.1, x.2.2.1, x.1.1, x.2.2.2.2)).2.1, fateF x.1 (x.1.1, x.2.2.1, x.1.1, x.2.2.2.2) true))) := by kernel_rfl
theorem begin_ok : CtrOK Try.prog 73 beginC :=
  fun_ok (G := beginG) (Λ := []) tysOK (ctrs_cons fate_ok (ctrs_cons out_ok ctrs_nil)) mixed (by kernel_rfl) (by kernel_rfl) (by kernel_rfl) (by kernel_rfl) lp_nil fun (x : DFib × DParcel) hw _ => by
    rw [congrFun begin_tree x]
    exact holds_val (d := beginC.fn x) (by kernel_rfl) (by simp [Tree.safe])
def some34C : Ctr := { args := [], res := [gFib], pre := none, fn := fun (x : Unit) => someFib }
def some34G : List (Nat × Ctr) := [(125, fnewC)]
theorem some34_tree : (fun x : Unit => evFn (mkC tys some34G []) (fnOf Try.prog 74) (resL some34C.args x) some34C.res) =
  (fun x =>
    Tree.leaf
      ((1 : Int),
        [(-1 : Int), (-1 : Int), (-1 : Int), (2 : Int), (-1 : Int), (-1 : Int), (-1 : Int), (-1 : Int), (-1 : Int), (-1 : Int), (-1 : Int), (-1 : Int), (-1 : Int), (-1 : Int), (-1 : Int), (-1 : Int)],
        [(((0 : Int), (0 : Int)), (0 : Int), (0 : Int)), (((0 : Int), (0 : Int)), (0 : Int), (0 : Int)), (((1 : Int), (0 : Int)), (2 : Int), (0 : Int)), (((0 : Int), (0 : Int)), (0 : Int), (0 : Int)),
          (((1 : Int), (0 : Int)), (9 : Int), (0 : Int)), (((0 : Int), (0 : Int)), (0 : Int), (0 : Int)), (((0 : Int), (0 : Int)), (0 : Int), (0 : Int)), (((0 : Int), (0 : Int)), (0 : Int), (0 : Int)),
          (((0 : Int), (0 : Int)), (0 : Int), (0 : Int)), (((0 : Int), (0 : Int)), (0 : Int), (0 : Int)), (((0 : Int), (0 : Int)), (0 : Int), (0 : Int)), (((0 : Int), (0 : Int)), (0 : Int), (0 : Int)),
          (((0 : Int), (0 : Int)), (0 : Int), (0 : Int)), (((0 : Int), (0 : Int)), (0 : Int), (0 : Int)), (((0 : Int), (0 : Int)), (0 : Int), (0 : Int)), (((0 : Int), (0 : Int)), (0 : Int), (0 : Int))])) := by kernel_rfl
theorem some34_ok : CtrOK Try.prog 74 some34C :=
  fun_ok (G := some34G) (Λ := []) tysOK (ctrs_cons fnew_ok ctrs_nil) mixed (by kernel_rfl) (by kernel_rfl) (by kernel_rfl) (by kernel_rfl) lp_nil fun (x : Unit) hw _ => by
    rw [congrFun some34_tree x]
    exact holds_val (d := some34C.fn x) (by kernel_rfl) (by simp [Tree.safe])
def awake34C : Ctr := { args := [], res := [.bool], pre := none, fn := fun (x : Unit) => true }
def awake34G : List (Nat × Ctr) := [(74, some34C), (73, beginC), (33, carryC), (75, outC), (30, swapC)]
theorem awake34_tree : (fun x : Unit => evFn (mkC tys awake34G []) (fnOf Try.prog 32) (resL awake34C.args x) awake34C.res) =
  (fun x => Tree.leaf true) := by kernel_rfl
theorem awake34_ok : CtrOK Try.prog 32 awake34C :=
  fun_ok (G := awake34G) (Λ := []) tysOK (ctrs_cons some34_ok (ctrs_cons begin_ok (ctrs_cons carry_ok (ctrs_cons out_ok (ctrs_cons swap_ok ctrs_nil))))) mixed (by kernel_rfl) (by kernel_rfl) (by kernel_rfl) (by kernel_rfl) lp_nil fun (x : Unit) hw _ => by
    rw [congrFun awake34_tree x]
    exact holds_val (d := awake34C.fn x) (by kernel_rfl) (by simp [Tree.safe])
def keepsG : List (Nat × Ctr) := [(32, awake34C), (33, carryC), (34, prightC), (35, rightC)]
theorem keepsG_ok : CtrsOK Try.prog (fun f => lk f keepsG) := (ctrs_cons awake34_ok (ctrs_cons carry_ok (ctrs_cons pright_ok (ctrs_cons right_ok ctrs_nil))))
def keepsC : Ctr := { args := [gFib, gParcel], res := [.bool], pre := some (smallD [gFib, gParcel]), fn := fun _ => true }
theorem keeps_tree : (fun x : DFib × DParcel => evFn (mkC tys keepsG []) (fnOf Try.prog 7) (resL keepsC.args x) keepsC.res) =
  (fun x =>
    Tree.br (decide ((↑(List.length x.2.2.2.2.2.2) : Int) > (500 : Int))) (Tree.leaf true)
      (Tree.br ((carryF x.1 x.2).2.2 != (1 : Int))
        (Tree.leaf
          (bif
              bif (carryF x.1 x.2).1 == (-1 : Int) then
                geq
                  (GTy.prod (GTy.int IntKind.i64)
                    (GTy.prod (GTy.prod (GTy.prod (GTy.int IntKind.u32) (GTy.int IntKind.u32)) (GTy.prod (GTy.int IntKind.u32) (GTy.int IntKind.u32)))
                      (GTy.prod (GTy.int IntKind.i64) (GTy.prod (GTy.int IntKind.i64) (GTy.prod (GTy.int IntKind.i64) GTy.str)))))
                  (carryF x.1 x.2).2.1 ((0 : Int), (((0 : Int), (0 : Int)), (0 : Int), (0 : Int)), (0 : Int), (0 : Int), (0 : Int), [])
              else false then
            true
          else false))
        (Tree.need (((!prightF x.2) == false && true) = true → (0 : Int) ≤ x.2.2.2.2.1 ∧ x.2.2.2.2.1 < (16 : Int))
          (Tree.br (bif !prightF x.2 then true else !rightF (List.getD x.1.2.1 (Int.toNat x.2.2.2.2.1) (0 : Int))) (Tree.leaf false)
            (Tree.need ((0 : Int) ≤ x.2.2.2.2.1 ∧ x.2.2.2.2.1 < (16 : Int))
              (Tree.need
                (((bif
                            bif
                                bif
                                    bif bif (carryF x.1 x.2).1 == List.getD x.1.2.1 (Int.toNat x.2.2.2.2.1) (0 : Int) then (carryF x.1 x.2).2.1.2.2.2.2.2 == x.2.2.2.2.2.2 else false then
                                      (carryF x.1 x.2).2.1.2.2.1 == x.2.2.2.1
                                    else false then
                                  (carryF x.1 x.2).2.1.2.2.2.1 == x.2.2.2.2.1
                                else false then
                              (carryF x.1 x.2).2.1.2.2.2.2.1 == IntKind.wrap IntKind.i64 (x.2.2.2.2.2.1 - (1 : Int))
                            else false then
                          (carryF x.1 x.2).2.1.1 == x.1.1
                        else false) ==
                        true &&
                      true) =
                    true →
                  (0 : Int) ≤ (carryF x.1 x.2).1 ∧ (carryF x.1 x.2).1 < (16 : Int))
                (Tree.leaf
                  (bif
                      bif
                          bif
                              bif
                                  bif
                                      bif bif (carryF x.1 x.2).1 == List.getD x.1.2.1 (Int.toNat x.2.2.2.2.1) (0 : Int) then (carryF x.1 x.2).2.1.2.2.2.2.2 == x.2.2.2.2.2.2 else false then
                                        (carryF x.1 x.2).2.1.2.2.1 == x.2.2.2.1
                                      else false then
                                    (carryF x.1 x.2).2.1.2.2.2.1 == x.2.2.2.2.1
                                  else false then
                                (carryF x.1 x.2).2.1.2.2.2.2.1 == IntKind.wrap IntKind.i64 (x.2.2.2.2.2.1 - (1 : Int))
                              else false then
                            (carryF x.1 x.2).2.1.1 == x.1.1
                          else false then
                        geq (GTy.prod (GTy.prod (GTy.int IntKind.u32) (GTy.int IntKind.u32)) (GTy.prod (GTy.int IntKind.u32) (GTy.int IntKind.u32))) (carryF x.1 x.2).2.1.2.1
                          (List.getD x.1.2.2 (Int.toNat (carryF x.1 x.2).1) (((0 : Int), (0 : Int)), (0 : Int), (0 : Int)))
                      else false then
                    true
                  else false)))))))) := by kernel_rfl
theorem keeps_ok : CtrOK Try.prog 7 keepsC :=
  fun_ok (G := keepsG) (Λ := []) tysOK keepsG_ok mixed (by kernel_rfl) (by kernel_rfl) (by kernel_rfl) (by kernel_rfl) lp_nil fun (x : DFib × DParcel) hw _ => by
    rw [congrFun keeps_tree x]
    simp only [Tree.holds]
    refine ⟨fun _ => rfl, fun _ => ⟨fun h => ?_, fun h => ?_⟩⟩
    · rw [carry_fate] at h
      rw [carry_off h]
      rfl
    · rw [carry_fate] at h
      have h1 : fateF x.1 x.2 false = 1 := by simpa using h
      obtain ⟨hp, hr, _⟩ := fate_on h1
      have hn : (carryF x.1 x.2).1 = nextOf x.1 x.2 := by rw [carry_on h1]
      unfold nextOf at hr
      refine ⟨fun _ => prightF_dst hp, fun h2 => ?_, fun _ => ⟨prightF_dst hp, fun _ => ?_, keeps_yes h1⟩⟩
      · rw [hp, hr] at h2
        cases h2
      · rw [hn]
        exact rightF_iff.1 hr
end Go.Ev.P
/- Nodes, costs and configurations, plainly. -/
set_option linter.unusedVariables false
namespace Go.Ev

abbrev gRules : GTy := .prod (.int .i64) (.prod (.int .i64) (.prod (.int .i64) (.int .i64)))
abbrev gCosts : GTy := .prod (.int .i64) (.arr 16 (.int .u32))
abbrev gConf : GTy := .prod (.int .i64) (.prod gRules gCosts)
abbrev DRules := Int × Int × Int × Int
abbrev DCosts := Int × List Int
abbrev DConf := Int × DRules × DCosts

/-- Bit n of a set. -/
def bitF (set n : Int) : Bool := bitsOp .and .i64 (Int.fdiv set (2 ^ min n.toNat 64)) 1 == 1
def hasF (set n : Int) : Bool := bif rightF n then bitF set n else false
def rcostF (n : Int) : Bool := bif decide (n ≥ 1) then decide (n ≤ 65536) else false
def withF (set n : Int) : Int := bif !rightF n then set else bitsOp .or .i64 set (IntKind.i64.wrap (1 * 2 ^ min n.toNat 64))
def withinF (n a b : Int) : Bool := bif decide (n ≥ a) then decide (n ≤ b) else false
def rulesF (r : DRules) : Bool := bif bif bif bif withinF r.1 1 100 then decide (r.2.1 > r.1) else false then decide (r.2.1 ≤ 1000) else false then withinF r.2.2.1 1 100 else false then withinF r.2.2.2 1 10 else false
def csetF (c : DCosts) (n w : Int) : DCosts × Int := bif bif !rightF n then true else !rcostF w then (c, 1) else ((withF c.1 n, c.2.set n.toNat w), 0)
/-- The set's nodes among the last k. -/
def elemsF (set : Int) : Nat → List Int
  | 0 => []
  | k + 1 => (bif hasF set (16 - (k + 1 : Nat)) then [(16 : Int) - (k + 1 : Nat)] else []) ++ elemsF set k
theorem elems_len (set : Int) : ∀ k, (elemsF set k).length ≤ k
  | 0 => Nat.le_refl _
  | k + 1 => by
    have := elems_len set k
    unfold elemsF
    cases hasF set (16 - (k + 1 : Nat)) <;> simp <;> omega
theorem list_step {s i : Int} {out : List Int} (h : 0 ≤ i ∧ i ≤ 16 ∧ (out.length : Int) ≤ i) :
    ((decide (i < 16) = true → (hasF s i = true → (out.length + 1) * 8 ≤ 140737488355328) ∧ ∃ y : (Int × Int × Unit) × List Int × Unit, some ((s, IntKind.i64.wrap (i + 1), ()), bif hasF s i then out ++ [i] else out, ()) = some y ∧
        (0 ≤ y.1.2.1 ∧ y.1.2.1 ≤ 16 ∧ (y.2.1.length : Int) ≤ y.1.2.1) ∧ (16 - y.1.2.1).toNat < (16 - i).toNat ∧ (Ex.exit 0, ((y.1.1, (16 : Int), ()), y.2.1 ++ elemsF y.1.1 (16 - y.1.2.1).toNat, ())) = (Ex.exit 0, ((s, (16 : Int), ()), out ++ elemsF s (16 - i).toNat, ()))) ∧
      (decide (i < 16) = false → ∃ y : (Int × Int × Unit) × List Int × Unit, some ((s, i, ()), out, ()) = some y ∧ (Ex.exit 0, ((s, (16 : Int), ()), out ++ elemsF s (16 - i).toNat, ())) = (Ex.exit 0, y))) := by
  obtain ⟨h1, h2, h3⟩ := h
  refine ⟨fun h => ?_, fun h => ?_⟩
  · have h' : i < 16 := by simpa using h
    have e : IntKind.i64.wrap (i + 1) = i + 1 := i64_id (by omega) (by omega)
    rw [e]
    refine ⟨fun _ => by omega, _, rfl, ⟨by simp only []; omega, by simp only []; omega, ?_⟩, by simp only []; omega, ?_⟩
    · cases hasF s i <;> simp <;> omega
    · simp only []
      rw [show (16 - i).toNat = (16 - (i + 1)).toNat + 1 by omega, elemsF, show (16 : Int) - ((16 - (i + 1)).toNat + 1 : Nat) = i by omega]
      cases hasF s i <;> simp
  · have h' : i = 16 := by
      have : ¬ i < 16 := by simpa using h
      omega
    subst h'
    exact ⟨_, rfl, by simp [elemsF]⟩
end Go.Ev
/- The functions of 'nodes', 'costs', 'valid' keep their contracts. -/
set_option linter.unusedVariables false
set_option linter.unusedSimpArgs false
namespace Go.Ev.P
open Go.Proofs
def hasC : Ctr := { args := [.int .i64, .int .i64], res := [.bool], pre := none, fn := fun (x : Int × Int) => hasF x.1 x.2 }
def hasG : List (Nat × Ctr) := [(35, rightC)]
theorem has_tree : (fun x : Int × Int => evFn (mkC tys hasG []) (fnOf Try.prog 81) (resL hasC.args x) hasC.res) =
  (fun x =>
    Tree.need ((rightF x.2 == true && true) = true → (0 : Int) ≤ x.2)
      (Tree.leaf (bif rightF x.2 then bitsOp BinOp.and IntKind.i64 (Int.fdiv x.1 ((2 : Int) ^ min (Int.toNat x.2) (64 : Nat))) (1 : Int) == (1 : Int) else false))) := by kernel_rfl
theorem has_ok : CtrOK Try.prog 81 hasC :=
  fun_ok (G := hasG) (Λ := []) tysOK (ctrs_cons right_ok ctrs_nil) mixed (by kernel_rfl) (by kernel_rfl) (by kernel_rfl) (by kernel_rfl) lp_nil fun (x : Int × Int) hw _ => by
    rw [congrFun has_tree x]
    exact holds_val (d := hasC.fn x) (by kernel_rfl) (by simp [Tree.safe]; intro h; exact (rightF_iff.1 h).1)
def withC : Ctr := { args := [.int .i64, .int .i64], res := [.int .i64], pre := none, fn := fun (x : Int × Int) => withF x.1 x.2 }
def withG : List (Nat × Ctr) := [(35, rightC)]
theorem with_tree : (fun x : Int × Int => evFn (mkC tys withG []) (fnOf Try.prog 129) (resL withC.args x) withC.res) =
  (fun x =>
    Tree.br (!rightF x.2) (Tree.leaf x.1) (Tree.need ((0 : Int) ≤ x.2) (Tree.leaf (bitsOp BinOp.or IntKind.i64 x.1 (IntKind.wrap IntKind.i64 ((1 : Int) * (2 : Int) ^ min (Int.toNat x.2) (64 : Nat))))))) := by kernel_rfl
theorem with_ok : CtrOK Try.prog 129 withC :=
  fun_ok (G := withG) (Λ := []) tysOK (ctrs_cons right_ok ctrs_nil) mixed (by kernel_rfl) (by kernel_rfl) (by kernel_rfl) (by kernel_rfl) lp_nil fun (x : Int × Int) hw _ => by
    rw [congrFun with_tree x]
    exact holds_val (d := withC.fn x) (by kernel_rfl) (by simp [Tree.safe]; intro h; exact (rightF_iff.1 h).1)
def rrightC : Ctr := { args := [.int .i64], res := [.bool], pre := none, fn := fun (x : Int) => rightF x }
def rrightG : List (Nat × Ctr) := []
theorem rright_tree : (fun x : Int => evFn (mkC tys rrightG []) (fnOf Try.prog 83) (resL rrightC.args x) rrightC.res) =
  (fun x => Tree.leaf (bif decide (x ≥ (0 : Int)) then decide (x < (16 : Int)) else false)) := by kernel_rfl
theorem rright_ok : CtrOK Try.prog 83 rrightC :=
  fun_ok (G := rrightG) (Λ := []) tysOK ctrs_nil mixed (by kernel_rfl) (by kernel_rfl) (by kernel_rfl) (by kernel_rfl) lp_nil fun (x : Int) hw _ => by
    rw [congrFun rright_tree x]
    exact holds_val (d := rrightC.fn x) (by kernel_rfl) (by simp [Tree.safe])
def rhasC : Ctr := { args := [.int .i64, .int .i64], res := [.bool], pre := none, fn := fun (x : Int × Int) => hasF x.1 x.2 }
theorem rhas_tree : (fun x : Int × Int => evFn (mkC tys [(83, rrightC)] []) (fnOf Try.prog 85) (resL rhasC.args x) rhasC.res) =
  (fun x =>
    Tree.need ((rightF x.2 == true && true) = true → (0 : Int) ≤ IntKind.wrap IntKind.u64 x.2)
      (Tree.leaf (bif rightF x.2 then bitsOp BinOp.and IntKind.i64 (Int.fdiv x.1 ((2 : Int) ^ min (Int.toNat (IntKind.wrap IntKind.u64 x.2)) (64 : Nat))) (1 : Int) == (1 : Int) else false))) := by kernel_rfl
theorem rhas_ok : CtrOK Try.prog 85 rhasC :=
  fun_ok (G := [(83, rrightC)]) (Λ := []) tysOK (ctrs_cons rright_ok ctrs_nil) mixed (by kernel_rfl) (by kernel_rfl) (by kernel_rfl) (by kernel_rfl) lp_nil fun (x : Int × Int) hw _ => by
    rw [congrFun rhas_tree x]
    cases h : rightF x.2 with
    | false => simp [Tree.holds, rhasC, hasF, h]
    | true =>
      have h2 := rightF_iff.1 h
      have e : IntKind.u64.wrap x.2 = x.2 := u64_id h2.1 (by omega)
      simp only [Tree.holds, rhasC, hasF, h, e, bitF]
      exact ⟨fun _ => h2.1, trivial⟩
def rcostC : Ctr := { args := [.int .u32], res := [.bool], pre := none, fn := fun (x : Int) => rcostF x }
def rcostG : List (Nat × Ctr) := []
theorem rcost_tree : (fun x : Int => evFn (mkC tys rcostG []) (fnOf Try.prog 128) (resL rcostC.args x) rcostC.res) =
  (fun x => Tree.leaf (bif decide (x ≥ (1 : Int)) then decide (x ≤ (65536 : Int)) else false)) := by kernel_rfl
theorem rcost_ok : CtrOK Try.prog 128 rcostC :=
  fun_ok (G := rcostG) (Λ := []) tysOK ctrs_nil mixed (by kernel_rfl) (by kernel_rfl) (by kernel_rfl) (by kernel_rfl) lp_nil fun (x : Int) hw _ => by
    rw [congrFun rcost_tree x]
    exact holds_val (d := rcostC.fn x) (by kernel_rfl) (by simp [Tree.safe])
def withinC : Ctr := { args := [.int .i64, .int .i64, .int .i64], res := [.bool], pre := none, fn := fun (x : Int × Int × Int) => withinF x.1 x.2.1 x.2.2 }
def withinG : List (Nat × Ctr) := []
theorem within_tree : (fun x : Int × Int × Int => evFn (mkC tys withinG []) (fnOf Try.prog 131) (resL withinC.args x) withinC.res) =
  (fun x => Tree.leaf (bif decide (x.1 ≥ x.2.1) then decide (x.1 ≤ x.2.2) else false)) := by kernel_rfl
theorem within_ok : CtrOK Try.prog 131 withinC :=
  fun_ok (G := withinG) (Λ := []) tysOK ctrs_nil mixed (by kernel_rfl) (by kernel_rfl) (by kernel_rfl) (by kernel_rfl) lp_nil fun (x : Int × Int × Int) hw _ => by
    rw [congrFun within_tree x]
    exact holds_val (d := withinC.fn x) (by kernel_rfl) (by simp [Tree.safe])
def rulesC : Ctr := { args := [gRules], res := [.bool], pre := none, fn := fun (x : DRules) => rulesF x }
def rulesG : List (Nat × Ctr) := [(131, withinC)]
theorem rules_tree : (fun x : DRules => evFn (mkC tys rulesG []) (fnOf Try.prog 82) (resL rulesC.args x) rulesC.res) =
  (fun x =>
    Tree.leaf
      (bif bif bif bif withinF x.1 (1 : Int) (100 : Int) then decide (x.2.1 > x.1) else false then decide (x.2.1 ≤ (1000 : Int)) else false then withinF x.2.2.1 (1 : Int) (100 : Int) else false then
        withinF x.2.2.2 (1 : Int) (10 : Int)
      else false)) := by kernel_rfl
theorem rules_ok : CtrOK Try.prog 82 rulesC :=
  fun_ok (G := rulesG) (Λ := []) tysOK (ctrs_cons within_ok ctrs_nil) mixed (by kernel_rfl) (by kernel_rfl) (by kernel_rfl) (by kernel_rfl) lp_nil fun (x : DRules) hw _ => by
    rw [congrFun rules_tree x]
    exact holds_val (d := rulesC.fn x) (by kernel_rfl) (by simp [Tree.safe])
def rrulesC : Ctr := { args := [gRules], res := [.bool], pre := none, fn := fun (x : DRules) => rulesF x }
theorem rrules_tree : (fun x : DRules => evFn (mkC tys [] []) (fnOf Try.prog 86) (resL rrulesC.args x) rrulesC.res) =
  (fun x =>
    Tree.leaf
      (bif
          bif
              bif
                  bif bif bif bif decide (x.1 ≥ (1 : Int)) then decide (x.1 ≤ (100 : Int)) else false then decide (x.2.1 > x.1) else false then decide (x.2.1 ≤ (1000 : Int)) else false then
                    decide (x.2.2.1 ≥ (1 : Int))
                  else false then
                decide (x.2.2.1 ≤ (100 : Int))
              else false then
            decide (x.2.2.2 ≥ (1 : Int))
          else false then
        decide (x.2.2.2 ≤ (10 : Int))
      else false)) := by kernel_rfl
theorem rrules_ok : CtrOK Try.prog 86 rrulesC :=
  fun_ok (G := []) (Λ := []) tysOK ctrs_nil mixed (by kernel_rfl) (by kernel_rfl) (by kernel_rfl) (by kernel_rfl) lp_nil fun (x : DRules) hw _ => by
    rw [congrFun rrules_tree x]
    simp only [Tree.holds, rrulesC, rulesF, withinF]
    cases h1 : decide (x.1 ≥ 1) <;> cases h2 : decide (x.1 ≤ 100) <;> cases h3 : decide (x.2.1 > x.1) <;> cases h4 : decide (x.2.1 ≤ 1000) <;> cases h5 : decide (x.2.2.1 ≥ 1) <;> cases h6 : decide (x.2.2.1 ≤ 100) <;> rfl
def csetC : Ctr := { args := [gCosts, .int .i64, .int .u32], res := [gCosts, .int .i64], pre := none, fn := fun (x : DCosts × Int × Int) => csetF x.1 x.2.1 x.2.2 }
def csetG : List (Nat × Ctr) := [(35, rightC), (128, rcostC), (129, withC)]
theorem cset_tree : (fun x : DCosts × Int × Int => evFn (mkC tys csetG []) (fnOf Try.prog 79) (resL csetC.args x) csetC.res) =
  (fun x =>
    Tree.br (bif !rightF x.2.1 then true else !rcostF x.2.2) (Tree.leaf (x.1, (1 : Int)))
      (Tree.need ((0 : Int) ≤ x.2.1 ∧ x.2.1 < (16 : Int)) (Tree.leaf ((withF x.1.1 x.2.1, List.set x.1.2 (Int.toNat x.2.1) x.2.2), (0 : Int))))) := by kernel_rfl
theorem cset_ok : CtrOK Try.prog 79 csetC :=
  fun_ok (G := csetG) (Λ := []) tysOK (ctrs_cons right_ok (ctrs_cons rcost_ok (ctrs_cons with_ok ctrs_nil))) mixed (by kernel_rfl) (by kernel_rfl) (by kernel_rfl) (by kernel_rfl) lp_nil fun (x : DCosts × Int × Int) hw _ => by
    rw [congrFun cset_tree x]
    exact holds_val (d := csetC.fn x) (by kernel_rfl) (by simp [Tree.safe]; intro h _; exact rightF_iff.1 h)
def listD : LoopD where
  prom := [(3, 1003, 3, .int .i64)]
  ts := [(0, .val (.int .i64)), (3, .tip 1003), (5, .val (.int .i64))]
  bs := [(1003, .row 3 (.int .i64) false)]
  pre := fun (x : (Int × Int × Unit) × List Int × Unit) => 0 ≤ x.1.2.1 ∧ x.1.2.1 ≤ 16 ∧ (x.2.1.length : Int) ≤ x.1.2.1
  out := fun (x : (Int × Int × Unit) × List Int × Unit) => .leaf (.exit 0, ((x.1.1, 16, ()), x.2.1 ++ elemsF x.1.1 (16 - x.1.2.1).toNat, ()))
def listG : List (Nat × Ctr) := [(81, hasC)]
theorem listG_ok : CtrsOK Try.prog (fun f => lk f listG) := (ctrs_cons has_ok ctrs_nil)
def listC : Ctr := { args := [.int .i64], res := [.sl (.int .i64)], pre := none, fn := fun (x : Int) => elemsF x 16 }
theorem list_round : (fun x : (Int × Int × Unit) × List Int × Unit => roundOf (mkC tys listG [(0, listD.spec)]) listD (loopB 0 (bodyOf (fnOf Try.prog 166))) x) =
  (fun x =>
    Tree.br (decide (x.1.2.1 < (16 : Int)))
      (Tree.need (hasF x.1.1 x.1.2.1 = true → (List.length x.2.1 + (1 : Nat)) * (8 : Nat) ≤ (140737488355328 : Nat))
        (Tree.leaf (Ex.normal, some ((x.1.1, IntKind.wrap IntKind.i64 (x.1.2.1 + (1 : Int)), ()), bif hasF x.1.1 x.1.2.1 then x.2.1 ++ [x.1.2.1] else x.2.1, ()))))
      (Tree.leaf (Ex.exit (0 : Nat), some ((x.1.1, x.1.2.1, ()), x.2.1, ())))) := by kernel_rfl
theorem list_loop : LoopOK (mkC tys listG [(0, listD.spec)]) listD.spec (loopB 0 (bodyOf (fnOf Try.prog 166))) :=
  loopD_ok1 (fun _ => rfl) (fun x => congrFun list_round x) (fun (x : (Int × Int × Unit) × List Int × Unit) => (16 - x.1.2.1).toNat) fun (x : (Int × Int × Unit) × List Int × Unit) hp => by
    obtain ⟨⟨s, i, ⟨⟩⟩, out, ⟨⟩⟩ := x
    exact list_step hp
theorem list_tree : (fun x : Int => evFn (mkC tys listG [(0, listD.spec)]) (fnOf Try.prog 166) (resL listC.args x) listC.res) =
  (fun x => Tree.need ((0 : Int) ≤ (0 : Int) ∧ (0 : Int) ≤ (16 : Int) ∧ (↑(0 : Nat) : Int) ≤ (0 : Int)) (Tree.leaf ([] ++ elemsF x (Int.toNat ((16 : Int) - (0 : Int)))))) := by kernel_rfl
theorem list_ok : CtrOK Try.prog 166 listC :=
  fun_ok (G := listG) (Λ := [(0, listD.spec)]) tysOK listG_ok mixed (by kernel_rfl) (by kernel_rfl) (by kernel_rfl) (by kernel_rfl) (lp_cons list_loop lp_nil) fun (x : Int) hw _ => by
    rw [congrFun list_tree x]
    exact ⟨⟨by omega, by omega, by omega⟩, rfl⟩
def rlistG : List (Nat × Ctr) := [(85, rhasC)]
theorem rlistG_ok : CtrsOK Try.prog (fun f => lk f rlistG) := (ctrs_cons rhas_ok ctrs_nil)
def rlistC : Ctr := { args := [.int .i64], res := [.sl (.int .i64)], pre := none, fn := fun (x : Int) => elemsF x 16 }
theorem rlist_round : (fun x : (Int × Int × Unit) × List Int × Unit => roundOf (mkC tys rlistG [(0, listD.spec)]) listD (loopB 0 (bodyOf (fnOf Try.prog 132))) x) =
  (fun x =>
    Tree.br (decide (x.1.2.1 < (16 : Int)))
      (Tree.need (hasF x.1.1 x.1.2.1 = true → (List.length x.2.1 + (1 : Nat)) * (8 : Nat) ≤ (140737488355328 : Nat))
        (Tree.leaf (Ex.normal, some ((x.1.1, IntKind.wrap IntKind.i64 (x.1.2.1 + (1 : Int)), ()), bif hasF x.1.1 x.1.2.1 then x.2.1 ++ [x.1.2.1] else x.2.1, ()))))
      (Tree.leaf (Ex.exit (0 : Nat), some ((x.1.1, x.1.2.1, ()), x.2.1, ())))) := by kernel_rfl
theorem rlist_loop : LoopOK (mkC tys rlistG [(0, listD.spec)]) listD.spec (loopB 0 (bodyOf (fnOf Try.prog 132))) :=
  loopD_ok1 (fun _ => rfl) (fun x => congrFun rlist_round x) (fun (x : (Int × Int × Unit) × List Int × Unit) => (16 - x.1.2.1).toNat) fun (x : (Int × Int × Unit) × List Int × Unit) hp => by
    obtain ⟨⟨s, i, ⟨⟩⟩, out, ⟨⟩⟩ := x
    exact list_step hp
theorem rlist_tree : (fun x : Int => evFn (mkC tys rlistG [(0, listD.spec)]) (fnOf Try.prog 132) (resL rlistC.args x) rlistC.res) =
  (fun x => Tree.need ((0 : Int) ≤ (0 : Int) ∧ (0 : Int) ≤ (16 : Int) ∧ (↑(0 : Nat) : Int) ≤ (0 : Int)) (Tree.leaf ([] ++ elemsF x (Int.toNat ((16 : Int) - (0 : Int)))))) := by kernel_rfl
theorem rlist_ok : CtrOK Try.prog 132 rlistC :=
  fun_ok (G := rlistG) (Λ := [(0, listD.spec)]) tysOK rlistG_ok mixed (by kernel_rfl) (by kernel_rfl) (by kernel_rfl) (by kernel_rfl) (lp_cons rlist_loop lp_nil) fun (x : Int) hw _ => by
    rw [congrFun rlist_tree x]
    exact ⟨⟨by omega, by omega, by omega⟩, rfl⟩
end Go.Ev.P
/- Sound costs, and configurations that may be, plainly. -/
set_option linter.unusedVariables false
set_option linter.unusedSimpArgs false
namespace Go.Ev
def costAt (c : DCosts) (n : Int) : Int := c.2.getD n.toNat 0
def okAt (c : DCosts) (n : Int) : Bool := bif hasF c.1 n then rcostF (costAt c n) else costAt c n == 0
def allOk (c : DCosts) : Nat → Bool
  | 0 => true
  | k + 1 => okAt c (16 - (k + 1 : Nat)) && allOk c k
def soundF (c : DCosts) : Bool := bif bif decide (c.1 < 0) then true else decide (c.1 ≥ 65536) then false else allOk c 16
def firstBad (c : DCosts) : Nat → Int
  | 0 => 16
  | k + 1 => bif okAt c (16 - (k + 1 : Nat)) then firstBad c k else 16 - (k + 1 : Nat)

def goodL (c : DCosts) (l : List Int) : Bool := l.all fun n => rcostF (costAt c n)
def fillL (c : DCosts) : List Int → List Int → List Int
  | [], w => w
  | n :: r, w => fillL c r (w.set n.toNat (costAt c n))
def badL (c : DCosts) : List Int → List Int → Int → Int × List Int
  | [], w, i => (i, w)
  | n :: r, w, i => bif rcostF (costAt c n) then badL c r (w.set n.toNat (costAt c n)) (i + 1) else (i, w)

theorem drop_step {α : Type} {l : List α} {i : Int} (d : α) (h0 : 0 ≤ i) (h1 : i < l.length) : l.drop i.toNat = l.getD i.toNat d :: l.drop (i + 1).toNat := by
  have h : i.toNat < l.length := by omega
  rw [List.drop_eq_getElem_cons h, show (i + 1).toNat = i.toNat + 1 by omega]
  simp [List.getD, h]

theorem mem_elems {s n : Int} : ∀ {k : Nat}, k ≤ 16 → (n ∈ elemsF s k ↔ 16 - (k : Int) ≤ n ∧ n < 16 ∧ hasF s n = true)
  | 0, _ => by simp [elemsF]; omega
  | k + 1, hk => by
    rw [elemsF, List.mem_append, mem_elems (by omega)]
    by_cases hn : n = 16 - ((k + 1 : Nat) : Int)
    · subst hn
      cases hasF s (16 - ((k + 1 : Nat) : Int)) <;> simp <;> omega
    · have : n ∈ (bif hasF s (16 - ((k + 1 : Nat) : Int)) then [(16 : Int) - ((k + 1 : Nat) : Int)] else []) ↔ False := by
        cases hasF s (16 - ((k + 1 : Nat) : Int)) with
        | false => simp
        | true => simp only [cond_true, List.mem_singleton, hn]
      rw [this, false_or]
      constructor
      · rintro ⟨a, b, c⟩; exact ⟨by omega, b, c⟩
      · rintro ⟨a, b, c⟩; exact ⟨by omega, b, c⟩

theorem allOk_iff {c : DCosts} : ∀ {k : Nat}, k ≤ 16 → (allOk c k = true ↔ ∀ n : Int, 16 - (k : Int) ≤ n → n < 16 → okAt c n = true)
  | 0, _ => by simp [allOk]; intro n h1 h2; omega
  | k + 1, hk => by
    rw [allOk, Bool.and_eq_true, allOk_iff (by omega)]
    constructor
    · rintro ⟨a, b⟩ n h1 h2
      by_cases hn : n = 16 - ((k + 1 : Nat) : Int)
      · rw [hn]; exact a
      · exact b n (by omega) h2
    · intro h
      exact ⟨h _ (by omega) (by omega), fun n h1 h2 => h n (by omega) h2⟩

theorem fill_len (c : DCosts) : ∀ (l w : List Int), (fillL c l w).length = w.length
  | [], w => rfl
  | n :: r, w => by rw [fillL, fill_len c r]; simp
theorem fill_get (c : DCosts) : ∀ (l w : List Int) (j : Nat), (∀ n ∈ l, 0 ≤ n) → j < w.length → (fillL c l w).getD j 0 = if (j : Int) ∈ l then costAt c j else w.getD j 0
  | [], w, j, _, hj => by simp [fillL]
  | n :: r, w, j, hp, hj => by
    have hn := hp n (by simp)
    rw [fillL, fill_get c r _ j (fun m hm => hp m (by simp [hm])) (by simpa using hj)]
    by_cases h : (j : Int) ∈ r
    · simp [h]
    · rw [if_neg h]
      by_cases h2 : (j : Int) = n
      · subst h2
        simp [hj]
      · have h3 : n.toNat ≠ j := by omega
        have h4 : ¬ (j : Int) ∈ n :: r := by simp [h, h2]
        rw [if_neg h4]
        simp [List.getD, List.getElem?_set, h3]

theorem go_int {k : IntKind} : ∀ (x y : List Int), x.length = y.length → geq.go (geq (.int k)) x y = decide (x = y)
  | [], [], _ => rfl
  | a :: x, b :: y, h => by
    have ih := go_int (k := k) x y (by simpa using h)
    simp only [geq.go, ih]
    show (a == b && decide (x = y)) = _
    rw [Bool.eq_iff_iff]
    simp
  | [], _ :: _, h => by simp at h
  | _ :: _, [], h => by simp at h
theorem geqArr {n : Nat} {k : IntKind} {x y : List Int} (h : x.length = y.length) : geq (.arr n (.int k)) x y = decide (x = y) := go_int x y h

theorem sound_core {c : DCosts} (hl : c.2.length = 16) :
    (bif goodL c (elemsF c.1 16) then geq (.arr 16 (.int .u32)) c.2 (fillL c (elemsF c.1 16) (List.replicate 16 0)) else false) = allOk c 16 := by
  obtain ⟨z, hz⟩ : ∃ z, z = List.replicate 16 (0 : Int) := ⟨_, rfl⟩
  have zl : z.length = 16 := by rw [hz]; rfl
  have z0 : ∀ j, z.getD j 0 = 0 := fun j => by
    rw [hz, List.getD, List.getElem?_replicate]
    split <;> rfl
  rw [← hz]
  clear hz
  rw [geqArr (by rw [fill_len, hl, zl]), Bool.eq_iff_iff, allOk_iff (Nat.le_refl _)]
  have hpos : ∀ n ∈ elemsF c.1 16, (0 : Int) ≤ n := fun n hn => by
    have := (mem_elems (Nat.le_refl _)).1 hn
    omega
  have hg : goodL c (elemsF c.1 16) = true ↔ ∀ n : Int, 0 ≤ n → n < 16 → hasF c.1 n = true → rcostF (costAt c n) = true := by
    unfold goodL
    rw [List.all_eq_true]
    constructor
    · intro h n h1 h2 h3
      exact h n ((mem_elems (Nat.le_refl _)).2 ⟨by omega, h2, h3⟩)
    · intro h n hn
      obtain ⟨h1, h2, h3⟩ := (mem_elems (Nat.le_refl _)).1 hn
      exact h n (by omega) h2 h3
  have he : c.2 = fillL c (elemsF c.1 16) z ↔ ∀ n : Int, 0 ≤ n → n < 16 → hasF c.1 n = false → costAt c n = 0 := by
    constructor
    · intro h n h1 h2 h3
      have hg := fill_get c (elemsF c.1 16) z n.toNat hpos (by omega)
      rw [← h] at hg
      have hm : ¬ ((n.toNat : Nat) : Int) ∈ elemsF c.1 16 := by
        rw [show ((n.toNat : Nat) : Int) = n by omega, mem_elems (Nat.le_refl _), h3]
        simp
      rw [if_neg hm] at hg
      unfold costAt
      rw [hg]
      exact z0 _
    · intro h
      apply List.ext_getElem
      · rw [fill_len, hl, zl]
      · intro j h1 h2
        have hj : j < 16 := by omega
        have hg := fill_get c (elemsF c.1 16) z j hpos (by omega)
        have e1 : (fillL c (elemsF c.1 16) z).getD j 0 = (fillL c (elemsF c.1 16) z)[j] := by rw [List.getD, List.getElem?_eq_getElem h2]; rfl
        have e2 : costAt c j = c.2[j] := by simp [costAt, List.getD, h1]
        rw [← e1, hg, ← e2]
        cases hb : hasF c.1 j with
        | true => rw [if_pos ((mem_elems (Nat.le_refl _)).2 ⟨by omega, by omega, hb⟩)]
        | false =>
          have hm : ¬ (j : Int) ∈ elemsF c.1 16 := by rw [mem_elems (Nat.le_refl _), hb]; simp
          rw [if_neg hm, h j (by omega) (by omega) hb]
          exact (z0 _).symm
  constructor
  · intro h n h1 h2
    cases hgg : goodL c (elemsF c.1 16) with
    | false => rw [hgg] at h; cases h
    | true =>
      rw [hgg] at h
      have h' := he.1 (of_decide_eq_true h)
      unfold okAt
      cases hb : hasF c.1 n with
      | true => exact hg.1 hgg n (by omega) h2 hb
      | false =>
        have := h' n (by omega) h2 hb
        simp [this]
  · intro h
    have h1 : goodL c (elemsF c.1 16) = true := hg.2 fun n h1 h2 h3 => by
      have := h n (by omega) h2
      unfold okAt at this
      rw [h3] at this
      exact this
    rw [h1]
    simp only [cond_true, decide_eq_true_eq]
    refine he.2 fun n h1 h2 h3 => ?_
    have := h n (by omega) h2
    unfold okAt at this
    rw [h3] at this
    simpa using this
theorem round_ok {c : DCosts} {n : Int} :
    (bif !geq GTy.bool (hasF c.1 n) (bif decide (costAt c n ≥ 1) then decide (costAt c n ≤ 65536) else false) then true else bif !hasF c.1 n then costAt c n != 0 else false) = !okAt c n := by
  unfold okAt rcostF
  rw [geqB]
  cases hasF c.1 n with
  | true => simp
  | false =>
    by_cases h : costAt c n = 0
    · simp [h]
    · have : (costAt c n != 0) = true := by simpa using h
      rw [this]
      have h2 : (costAt c n == 0) = false := by simpa using h
      rw [h2]
      simp
theorem sound_fn {c : DCosts} (hl : c.2.length = 16) :
    (bif bif decide (c.1 < 0) then true else decide (c.1 ≥ 65536) then false else bif goodL c (elemsF c.1 16) then geq (.arr 16 (.int .u32)) c.2 (fillL c (elemsF c.1 16) (List.replicate 16 0)) else false) = soundF c := by
  rw [sound_core hl]
  rfl
theorem rsound_fn (c : DCosts) : (bif allOk c 16 then bif decide (c.1 ≥ 0) then decide (c.1 ≤ 65535) else false else false) = soundF c := by
  unfold soundF
  cases allOk c 16 <;> by_cases h1 : c.1 < 0 <;> by_cases h2 : c.1 ≥ 65536 <;> simp [h1, h2] <;> omega
end Go.Ev
/- Frames and sums, in plain Lean. -/
set_option linter.unusedVariables false
set_option linter.unusedSimpArgs false
namespace Go.Ev
/-- A sum of two halves: one byte more. -/
def addB (p : Int × Int) (x : UInt8) : Int × Int :=
  (Int.tmod (IntKind.wrap IntKind.u32 (p.1 + Int.tmod (IntKind.wrap IntKind.u32 (p.2 + IntKind.wrap IntKind.u32 (x.toNat : Int))) (65521 : Int))) (65521 : Int),
    Int.tmod (IntKind.wrap IntKind.u32 (p.2 + IntKind.wrap IntKind.u32 (x.toNat : Int))) (65521 : Int))
def addAll : Int × Int → List UInt8 → Int × Int
  | p, [] => p
  | p, x :: s => addAll (addB p x) s
def startS (n : Int) : Int × Int := (Int.tmod (Int.fdiv n (65536 : Int)) (65521 : Int), Int.tmod (bitsOp BinOp.and IntKind.u32 n (65535 : Int)) (65521 : Int))
def tellS (p : Int × Int) : Int := bitsOp BinOp.or IntKind.u32 (IntKind.wrap IntKind.u32 (p.1 * (65536 : Int))) p.2
def moreF (n : Int) (s : List UInt8) : Int := tellS (addAll (startS n) s)
def sumF (s : List UInt8) : Int := moreF 1 s
def kindF (n : Int) : List UInt8 :=
  bif n == (1 : Int) then [104, 101, 108, 108, 111] else bif n == (2 : Int) then [112, 97, 114, 116] else bif n == (3 : Int) then [97, 99, 107] else bif n == (4 : Int) then [112, 97, 114, 99, 101, 108] else []
def sealF (s : List UInt8) : List UInt8 := s ++ numF (IntKind.wrap IntKind.u64 (sumF s)) 4
def wrapF (k : Int) (s : List UInt8) : List UInt8 × Int := bif bif bif decide (k < 1) then true else decide (k > 4) then true else decide ((s.length : Int) > 250) then ([], 1) else (sealF ((([70] : List UInt8) ++ numF (IntKind.wrap IntKind.u64 k) 1) ++ s), 0)
theorem numF_len4 (n : Int) : (numF n 4).length = 4 := numB_len 4 _
theorem numF_len1 (n : Int) : (numF n 1).length = 1 := numB_len 1 _
theorem clamp8 (k : Int) : (if (0 : Int) < if (8 : Int) < k then (8 : Int) else k then if (8 : Int) < k then (8 : Int) else k else (0 : Int)) = min (max k 0) 8 := by
  by_cases h : 8 < k
  · simp only [h, if_true]; rw [if_pos (by omega)]; omega
  · simp only [h, if_false]
    by_cases h0 : 0 < k
    · rw [if_pos h0]; omega
    · rw [if_neg h0]; omega
theorem numB_head : ∀ (k n : Nat), numB (k + 1) n = UInt8.ofNat (n / 256 ^ k % 256) :: numB k n
  | 0, n => by simp [numB]
  | k + 1, n => by
    have h1 : numB (k + 2) n = numB (k + 1) (n / 256) ++ [UInt8.ofNat (n % 256)] := rfl
    have h2 : numB (k + 1) n = numB k (n / 256) ++ [UInt8.ofNat (n % 256)] := rfl
    rw [h1, numB_head k (n / 256), h2, Nat.div_div_eq_div_mul, Nat.mul_comm 256, ← Nat.pow_succ]
    rfl
theorem shr_byte {n i : Int} (h0 : 0 ≤ n) (h1 : 0 ≤ i) (h2 : i < 8) : bytesToStr [IntKind.wrap .u8 (Int.fdiv n ((2 : Int) ^ min (Int.toNat (IntKind.wrap .u64 (IntKind.wrap .i64 ((8 : Int) * i)))) (64 : Nat)))] = [UInt8.ofNat (n.toNat / 256 ^ i.toNat % 256)] := by
  have e1 : IntKind.wrap .i64 (8 * i) = 8 * i := i64_id (by omega) (by omega)
  have e2 : IntKind.wrap .u64 (8 * i) = 8 * i := u64_id (by omega) (by omega)
  rw [e1, e2]
  have hi : i = 0 ∨ i = 1 ∨ i = 2 ∨ i = 3 ∨ i = 4 ∨ i = 5 ∨ i = 6 ∨ i = 7 := by omega
  have hp : (2 : Int) ^ min (Int.toNat (8 * i)) (64 : Nat) = ((256 ^ i.toNat : Nat) : Int) := by
    rcases hi with rfl | rfl | rfl | rfl | rfl | rfl | rfl | rfl <;> rfl
  rw [hp]
  generalize 256 ^ i.toNat = m
  rw [Int.fdiv_eq_ediv_of_nonneg _ (by omega), wrap_u8]
  obtain ⟨k, rfl⟩ := Int.eq_ofNat_of_zero_le h0
  have e3 : ((k : Int) / (m : Int) % 256) = ((k / m % 256 : Nat) : Int) := by simp
  rw [e3]
  rfl
theorem take_add {s : List UInt8} {i : Int} (h0 : 0 ≤ i) (hi : i < s.length) (h7 : i < 8) :
    IntKind.u64.wrap (IntKind.u64.wrap ((bigN (s.take i.toNat) : Int) * 256) + IntKind.u64.wrap ((s.getD i.toNat 0).toNat : Int)) = (bigN (s.take (i + 1).toNat) : Int) := by
  have hlt := bigN_lt (s.take i.toNat)
  have hlen : (s.take i.toNat).length = i.toNat := by rw [List.length_take]; omega
  rw [hlen] at hlt
  have hp : (256 : Nat) ^ i.toNat ≤ 256 ^ 7 := Nat.pow_le_pow_right (by omega) (by omega)
  have hb := u8_toNat_lt (s.getD i.toNat 0)
  have hn : s.take (i + 1).toNat = s.take i.toNat ++ [s.getD i.toNat 0] := by
    rw [show (i + 1).toNat = i.toNat + 1 by omega, List.take_add_one]
    simp [List.getD, show i.toNat < s.length by omega]
  generalize s.getD i.toNat 0 = b at *
  rw [hn, bigN_snoc]
  generalize bigN (s.take i.toNat) = n at *
  have h7' : (256 : Nat) ^ 7 = 72057594037927936 := by decide
  have f1 : IntKind.u64.wrap ((n : Int) * 256) = (n : Int) * 256 := u64_id (by omega) (by omega)
  have f2 : IntKind.u64.wrap (b.toNat : Int) = (b.toNat : Int) := u64_id (by omega) (by omega)
  rw [f1, f2, u64_id (by omega) (by omega)]
  omega
/-- What a sealed text holds. -/
def unsealF (s : List UInt8) : List UInt8 × Int :=
  bif decide ((s.length : Int) < 4) then ([], 2) else
    bif IntKind.wrap IntKind.u64 (sumF (s.take (s.length - 4))) != (bigN (s.drop (s.length - 4)) : Int) then ([], 5) else (s.take (s.length - 4), 0)
def openF (s : List UInt8) : Int × List UInt8 × Int :=
  bif decide ((s.length : Int) > 256) then (0, [], 4) else
    bif (unsealF s).2 != 0 then (0, [], (unsealF s).2) else
      bif decide (((unsealF s).1.length : Int) < 2) then (0, [], 2) else
        bif bif bif (((unsealF s).1.getD 0 0).toNat : Int) != 70 then true else decide ((((unsealF s).1.getD 1 0).toNat : Int) < 1) then true else decide ((((unsealF s).1.getD 1 0).toNat : Int) > 4) then (0, [], 3) else
          (IntKind.wrap IntKind.i64 (((unsealF s).1.getD 1 0).toNat : Int), (unsealF s).1.drop 2, 0)
end Go.Ev
/- The functions of 'frame' and 'check' that the evaluator tells. -/
set_option linter.unusedVariables false
set_option linter.unusedSimpArgs false
namespace Go.Ev.P
open Go.Proofs
def rmoreC : Ctr := { args := [.int .u32, .str], res := [.int .u32], pre := none, fn := fun (x : Int × List UInt8) => moreF x.1 x.2 }
def rmoreD : LoopD where
  prom := []
  ts := [(1, .val .str), (5, .val (.int .u32)), (6, .val (.int .u32)), (15, .val (.int .i64)), (16, .val (.int .i64))]
  bs := []
  pre := fun (x : (List UInt8 × Int × Int × Int × Int × Unit) × Unit) => 0 ≤ x.1.2.2.2.2.1 ∧ x.1.2.2.2.2.1 ≤ x.1.2.2.2.1 ∧ x.1.2.2.2.1 = x.1.1.length ∧ x.1.2.2.2.1 ≤ 4611686018427387904
  out := fun (x : (List UInt8 × Int × Int × Int × Int × Unit) × Unit) => .leaf (.exit 0, ((x.1.1, (addAll (x.1.2.1, x.1.2.2.1) (x.1.1.drop x.1.2.2.2.2.1.toNat)).1, (addAll (x.1.2.1, x.1.2.2.1) (x.1.1.drop x.1.2.2.2.2.1.toNat)).2, x.1.2.2.2.1, x.1.2.2.2.1, ()), ()))
theorem rmore_round : (fun x : (List UInt8 × Int × Int × Int × Int × Unit) × Unit => roundOf (mkC tys [] [(0, rmoreD.spec)]) rmoreD (loopB 0 (bodyOf (fnOf Try.prog 171))) x) =
  (fun x =>
    Tree.br (decide (x.1.2.2.2.2.1 < x.1.2.2.2.1))
      (Tree.need ((0 : Int) ≤ x.1.2.2.2.2.1 ∧ x.1.2.2.2.2.1 < (↑(List.length x.1.1) : Int))
        (Tree.leaf
          (Ex.normal,
            some
              ((x.1.1,
                  Int.tmod
                    (IntKind.wrap IntKind.u32
                      (x.1.2.1 + Int.tmod (IntKind.wrap IntKind.u32 (x.1.2.2.1 + IntKind.wrap IntKind.u32 (↑(UInt8.toNat (List.getD x.1.1 (Int.toNat x.1.2.2.2.2.1) (0 : UInt8))) : Int))) (65521 : Int)))
                    (65521 : Int),
                  Int.tmod (IntKind.wrap IntKind.u32 (x.1.2.2.1 + IntKind.wrap IntKind.u32 (↑(UInt8.toNat (List.getD x.1.1 (Int.toNat x.1.2.2.2.2.1) (0 : UInt8))) : Int))) (65521 : Int), x.1.2.2.2.1,
                  IntKind.wrap IntKind.i64 (x.1.2.2.2.2.1 + (1 : Int)), ()),
                ()))))
      (Tree.leaf (Ex.exit (0 : Nat), some ((x.1.1, x.1.2.1, x.1.2.2.1, x.1.2.2.2.1, x.1.2.2.2.2.1, ()), ())))) := by kernel_rfl
theorem rmore_loop : LoopOK (mkC tys [] [(0, rmoreD.spec)]) rmoreD.spec (loopB 0 (bodyOf (fnOf Try.prog 171))) :=
  loopD_ok1 (fun _ => rfl) (fun x => congrFun rmore_round x) (fun (x : (List UInt8 × Int × Int × Int × Int × Unit) × Unit) => (x.1.2.2.2.1 - x.1.2.2.2.2.1).toNat) fun (x : (List UInt8 × Int × Int × Int × Int × Unit) × Unit) hp => by
    obtain ⟨⟨s, a, b, n, i, ⟨⟩⟩, ⟨⟩⟩ := x
    obtain ⟨h1, h2, h3, h4⟩ := hp
    simp only at h1 h2 h3 h4
    simp only [Tree.holds]
    refine ⟨fun h => ?_, fun h => ?_⟩
    · have h' : i < n := by simpa using h
      have e : IntKind.i64.wrap (i + 1) = i + 1 := i64_id (by omega) (by omega)
      have hd := drop_step (l := s) (0 : UInt8) h1 (by omega)
      have hr : 0 ≤ i ∧ i < (s.length : Int) := by omega
      generalize s.getD i.toNat (0 : UInt8) = c at hd ⊢
      refine ⟨hr, _, rfl, ⟨?_, ?_, h3, h4⟩, ?_, ?_⟩
      · show 0 ≤ IntKind.i64.wrap (i + 1); omega
      · show IntKind.i64.wrap (i + 1) ≤ n; omega
      · show (n - IntKind.i64.wrap (i + 1)).toNat < (n - i).toNat; omega
      · show (Ex.exit 0, ((s, (addAll (addB (a, b) c) (s.drop (IntKind.i64.wrap (i + 1)).toNat)).1, (addAll (addB (a, b) c) (s.drop (IntKind.i64.wrap (i + 1)).toNat)).2, n, n, ()), ())) = (Ex.exit 0, ((s, (addAll (a, b) (s.drop i.toNat)).1, (addAll (a, b) (s.drop i.toNat)).2, n, n, ()), ()))
        rw [e, hd]
        rfl
    · have h' : ¬ i < n := by simpa using h
      have hi : i = n := by omega
      subst hi
      have hd : s.drop i.toNat = [] := List.drop_eq_nil_of_le (by omega)
      refine ⟨_, rfl, ?_⟩
      show (Ex.exit 0, ((s, (addAll (a, b) (s.drop i.toNat)).1, (addAll (a, b) (s.drop i.toNat)).2, i, i, ()), ())) = _
      rw [hd]
      rfl
theorem rmore_tree : (fun x : Int × List UInt8 => evFn (mkC tys [] [(0, rmoreD.spec)]) (fnOf Try.prog 171) (resL rmoreC.args x) rmoreC.res) =
  (fun x =>
    Tree.need ((0 : Int) ≤ (0 : Int) ∧ (0 : Int) ≤ (↑(List.length x.2) : Int) ∧ (↑(List.length x.2) : Int) = (↑(List.length x.2) : Int) ∧ (↑(List.length x.2) : Int) ≤ (4611686018427387904 : Int))
      (Tree.leaf
        (bitsOp BinOp.or IntKind.u32
          (IntKind.wrap IntKind.u32
            ((addAll (Int.tmod (Int.fdiv x.1 (65536 : Int)) (65521 : Int), Int.tmod (bitsOp BinOp.and IntKind.u32 x.1 (65535 : Int)) (65521 : Int)) (List.drop (Int.toNat (0 : Int)) x.2)).1 *
              (65536 : Int)))
          (addAll (Int.tmod (Int.fdiv x.1 (65536 : Int)) (65521 : Int), Int.tmod (bitsOp BinOp.and IntKind.u32 x.1 (65535 : Int)) (65521 : Int)) (List.drop (Int.toNat (0 : Int)) x.2)).2))) := by kernel_rfl
theorem rmore_ok : CtrOK Try.prog 171 rmoreC :=
  fun_ok (G := []) (Λ := [(0, rmoreD.spec)]) tysOK ctrs_nil mixed (by kernel_rfl) (by kernel_rfl) (by kernel_rfl) (by kernel_rfl) (lp_cons rmore_loop lp_nil) fun (x : Int × List UInt8) hw _ => by
    rw [congrFun rmore_tree x]
    have hl : x.2.length ≤ 4611686018427387904 := hw.2
    simp only [Tree.holds]
    exact ⟨⟨by omega, by omega, trivial, by omega⟩, rfl⟩
def rsumC : Ctr := { args := [.str], res := [.int .u32], pre := none, fn := fun (x : List UInt8) => sumF x }
def rsumG : List (Nat × Ctr) := [(171, rmoreC)]
theorem rsum_tree : (fun x : List UInt8 => evFn (mkC tys rsumG []) (fnOf Try.prog 135) (resL rsumC.args x) rsumC.res) =
  (fun x => Tree.leaf (moreF (1 : Int) x)) := by kernel_rfl
theorem rsum_ok : CtrOK Try.prog 135 rsumC :=
  fun_ok (G := rsumG) (Λ := []) tysOK (ctrs_cons rmore_ok ctrs_nil) mixed (by kernel_rfl) (by kernel_rfl) (by kernel_rfl) (by kernel_rfl) lp_nil fun (x : List UInt8) hw _ => by
    rw [congrFun rsum_tree x]
    exact holds_val (d := rsumC.fn x) (by kernel_rfl) (by simp [Tree.safe])
def kindC : Ctr := { args := [.int .i64], res := [.str], pre := none, fn := fun (x : Int) => kindF x }
theorem kind_tree : (fun x : Int => evFn (mkC tys [] []) (fnOf Try.prog 89) (resL kindC.args x) kindC.res) =
  (fun x =>
    Tree.br (x == (1 : Int)) (Tree.leaf [(104 : UInt8), (101 : UInt8), (108 : UInt8), (108 : UInt8), (111 : UInt8)])
      (Tree.br (x == (2 : Int)) (Tree.leaf [(112 : UInt8), (97 : UInt8), (114 : UInt8), (116 : UInt8)])
        (Tree.br (x == (3 : Int)) (Tree.leaf [(97 : UInt8), (99 : UInt8), (107 : UInt8)])
          (Tree.br (x == (4 : Int)) (Tree.leaf [(112 : UInt8), (97 : UInt8), (114 : UInt8), (99 : UInt8), (101 : UInt8), (108 : UInt8)]) (Tree.leaf []))))) := by kernel_rfl
theorem kind_ok : CtrOK Try.prog 89 kindC :=
  fun_ok (G := []) (Λ := []) tysOK ctrs_nil mixed (by kernel_rfl) (by kernel_rfl) (by kernel_rfl) (by kernel_rfl) lp_nil fun (x : Int) hw _ => by
    rw [congrFun kind_tree x]
    simp only [Tree.holds, kindC, kindF]
    refine ⟨fun h => by rw [h]; rfl, fun h => ⟨fun h2 => by rw [h, h2]; rfl, fun h2 => ⟨fun h3 => by rw [h, h2, h3]; rfl, fun h3 => ⟨fun h4 => by rw [h, h2, h3, h4]; rfl, fun h4 => by rw [h, h2, h3, h4]; rfl⟩⟩⟩⟩
end Go.Ev.P
/- The reference's numbers and frames. -/
set_option linter.unusedVariables false
set_option linter.unusedSimpArgs false
namespace Go.Ev.P
open Go.Proofs
def rnumC : Ctr := { args := [.int .u64, .int .i64], res := [.str], pre := none, fn := fun (x : Int × Int) => numF x.1 x.2 }
def rnumD : LoopD where
  prom := []
  ts := [(0, .val (.int .u64)), (5, .val .str), (6, .val (.int .i64))]
  bs := []
  pre := fun (x : (Int × List UInt8 × Int × Unit) × Unit) => 0 ≤ x.1.1 ∧ -1 ≤ x.1.2.2.1 ∧ x.1.2.2.1 < 8 ∧ (x.1.2.1.length : Int) + x.1.2.2.1 ≤ 100
  out := fun (x : (Int × List UInt8 × Int × Unit) × Unit) => .leaf (.exit 0, ((x.1.1, x.1.2.1 ++ numB (x.1.2.2.1 + 1).toNat x.1.1.toNat, -1, ()), ()))
theorem rnum_round : (fun x : (Int × List UInt8 × Int × Unit) × Unit => roundOf (mkC tys [] [(0, rnumD.spec)]) rnumD (loopB 0 (bodyOf (fnOf Try.prog 93))) x) =
  (fun x =>
    Tree.br (decide (x.1.2.2.1 ≥ (0 : Int)))
      (Tree.need ((0 : Int) ≤ IntKind.wrap IntKind.u64 (IntKind.wrap IntKind.i64 ((8 : Int) * x.1.2.2.1)))
        (Tree.need
          (List.length x.1.2.1 +
              List.length (bytesToStr [IntKind.wrap IntKind.u8 (Int.fdiv x.1.1 ((2 : Int) ^ min (Int.toNat (IntKind.wrap IntKind.u64 (IntKind.wrap IntKind.i64 ((8 : Int) * x.1.2.2.1)))) (64 : Nat)))]) ≤
            (4611686018427387904 : Nat))
          (Tree.leaf
            (Ex.normal,
              some
                ((x.1.1,
                    x.1.2.1 ++
                      bytesToStr [IntKind.wrap IntKind.u8 (Int.fdiv x.1.1 ((2 : Int) ^ min (Int.toNat (IntKind.wrap IntKind.u64 (IntKind.wrap IntKind.i64 ((8 : Int) * x.1.2.2.1)))) (64 : Nat)))],
                    IntKind.wrap IntKind.i64 (x.1.2.2.1 - (1 : Int)), ()),
                  ())))))
      (Tree.leaf (Ex.exit (0 : Nat), some ((x.1.1, x.1.2.1, x.1.2.2.1, ()), ())))) := by kernel_rfl
theorem rnum_loop : LoopOK (mkC tys [] [(0, rnumD.spec)]) rnumD.spec (loopB 0 (bodyOf (fnOf Try.prog 93))) :=
  loopD_ok1 (fun _ => rfl) (fun x => congrFun rnum_round x) (fun (x : (Int × List UInt8 × Int × Unit) × Unit) => (x.1.2.2.1 + 1).toNat) fun (x : (Int × List UInt8 × Int × Unit) × Unit) hp => by
    obtain ⟨⟨n, out, i, ⟨⟩⟩, ⟨⟩⟩ := x
    obtain ⟨h1, h2, h3, h4⟩ := hp
    simp only at h1 h2 h3 h4
    simp only [Tree.holds]
    refine ⟨fun h => ?_, fun h => ?_⟩
    · have h' : 0 ≤ i := by simpa using h
      have e : IntKind.i64.wrap (i - 1) = i - 1 := i64_id (by omega) (by omega)
      have e1 : IntKind.i64.wrap (8 * i) = 8 * i := i64_id (by omega) (by omega)
      have e2 : IntKind.u64.wrap (8 * i) = 8 * i := u64_id (by omega) (by omega)
      rw [shr_byte h1 h' h3]
      refine ⟨by rw [e1, e2]; omega, by simp; omega, _, rfl, ⟨h1, ?_, ?_, ?_⟩, ?_, ?_⟩
      · show -1 ≤ IntKind.i64.wrap (i - 1); omega
      · show IntKind.i64.wrap (i - 1) < 8; omega
      · show (((out ++ [UInt8.ofNat (n.toNat / 256 ^ i.toNat % 256)]).length : Nat) : Int) + IntKind.i64.wrap (i - 1) ≤ 100
        rw [List.length_append]; simp; omega
      · show (IntKind.i64.wrap (i - 1) + 1).toNat < (i + 1).toNat; omega
      · show (Ex.exit 0, ((n, (out ++ [UInt8.ofNat (n.toNat / 256 ^ i.toNat % 256)]) ++ numB (IntKind.i64.wrap (i - 1) + 1).toNat n.toNat, (-1 : Int), ()), ())) = (Ex.exit 0, ((n, out ++ numB (i + 1).toNat n.toNat, (-1 : Int), ()), ()))
        rw [e, show i - 1 + 1 = i by omega, show (i + 1).toNat = i.toNat + 1 by omega, numB_head, List.append_assoc]
        rfl
    · have h' : i < 0 := by simpa using h
      have hi : i = -1 := by omega
      subst hi
      refine ⟨_, rfl, ?_⟩
      show (Ex.exit 0, ((n, out ++ numB 0 n.toNat, (-1 : Int), ()), ())) = (Ex.exit 0, ((n, out, (-1 : Int), ()), ()))
      rw [show numB 0 n.toNat = [] from rfl, List.append_nil]
theorem rnum_tree : (fun x : Int × Int => evFn (mkC tys [] [(0, rnumD.spec)]) (fnOf Try.prog 93) (resL rnumC.args x) rnumC.res) =
  (fun x =>
    Tree.need
      ((0 : Int) ≤ x.1 ∧
        (-1 : Int) ≤ IntKind.wrap IntKind.i64 ((if (0 : Int) < if (8 : Int) < x.2 then (8 : Int) else x.2 then if (8 : Int) < x.2 then (8 : Int) else x.2 else (0 : Int)) - (1 : Int)) ∧
          IntKind.wrap IntKind.i64 ((if (0 : Int) < if (8 : Int) < x.2 then (8 : Int) else x.2 then if (8 : Int) < x.2 then (8 : Int) else x.2 else (0 : Int)) - (1 : Int)) < (8 : Int) ∧
            (↑(0 : Nat) : Int) + IntKind.wrap IntKind.i64 ((if (0 : Int) < if (8 : Int) < x.2 then (8 : Int) else x.2 then if (8 : Int) < x.2 then (8 : Int) else x.2 else (0 : Int)) - (1 : Int)) ≤
              (100 : Int))
      (Tree.leaf
        ([] ++
          numB (Int.toNat (IntKind.wrap IntKind.i64 ((if (0 : Int) < if (8 : Int) < x.2 then (8 : Int) else x.2 then if (8 : Int) < x.2 then (8 : Int) else x.2 else (0 : Int)) - (1 : Int)) + (1 : Int)))
            (Int.toNat x.1)))) := by kernel_rfl
theorem rnum_ok : CtrOK Try.prog 93 rnumC :=
  fun_ok (G := []) (Λ := [(0, rnumD.spec)]) tysOK ctrs_nil mixed (by kernel_rfl) (by kernel_rfl) (by kernel_rfl) (by kernel_rfl) (lp_cons rnum_loop lp_nil) fun (x : Int × Int) hw _ => by
    rw [congrFun rnum_tree x]
    obtain ⟨n, k⟩ := x
    have h1 : IntKind.u64.has n := hw.1
    rw [has_u64] at h1
    simp only [Tree.holds]
    rw [clamp8]
    have hm : 0 ≤ min (max k 0) 8 ∧ min (max k 0) 8 ≤ 8 := by omega
    simp only [rnumC, numF]
    generalize min (max k 0) 8 = m at *
    have e : IntKind.i64.wrap (m - 1) = m - 1 := i64_id (by omega) (by omega)
    rw [e, show m - 1 + 1 = m by omega]
    exact ⟨⟨h1.1, by omega, by omega, by omega⟩, rfl⟩
def rsealG : List (Nat × Ctr) := [(135, rsumC), (93, rnumC)]
theorem rsealG_ok : CtrsOK Try.prog (fun f => lk f rsealG) := (ctrs_cons rsum_ok (ctrs_cons rnum_ok ctrs_nil))
def rsealC : Ctr := { args := [.str], res := [.str], pre := some (fun (x : List UInt8) => x.length ≤ 100000000), fn := fun (x : List UInt8) => sealF x }
theorem rseal_tree : (fun x : List UInt8 => evFn (mkC tys rsealG []) (fnOf Try.prog 92) (resL rsealC.args x) rsealC.res) =
  (fun x =>
    Tree.need (List.length x + List.length (numF (IntKind.wrap IntKind.u64 (sumF x)) (4 : Int)) ≤ (4611686018427387904 : Nat)) (Tree.leaf (x ++ numF (IntKind.wrap IntKind.u64 (sumF x)) (4 : Int)))) := by kernel_rfl
theorem rseal_ok : CtrOK Try.prog 92 rsealC :=
  fun_ok (G := rsealG) (Λ := []) tysOK rsealG_ok mixed (by kernel_rfl) (by kernel_rfl) (by kernel_rfl) (by kernel_rfl) lp_nil fun (x : List UInt8) hw hpre => by
    rw [congrFun rseal_tree x]
    have hp : x.length ≤ 100000000 := hpre _ rfl
    simp only [Tree.holds]
    exact ⟨by rw [numF_len4]; omega, rfl⟩
def rwrapG : List (Nat × Ctr) := [(93, rnumC), (92, rsealC)]
def rwrapC : Ctr := { args := [.int .i64, .str], res := [.str, .int .i64], pre := none, fn := fun (x : Int × List UInt8) => wrapF x.1 x.2 }
theorem rwrap_tree : (fun x : Int × List UInt8 => evFn (mkC tys rwrapG []) (fnOf Try.prog 45) (resL rwrapC.args x) rwrapC.res) =
  (fun x =>
    Tree.br (bif bif decide (x.1 < (1 : Int)) then true else decide (x.1 > (4 : Int)) then true else decide ((↑(List.length x.2) : Int) > (250 : Int))) (Tree.leaf ([], (1 : Int)))
      (Tree.need ((1 : Nat) + List.length (numF (IntKind.wrap IntKind.u64 x.1) (1 : Int)) ≤ (4611686018427387904 : Nat))
        (Tree.need (List.length ([(70 : UInt8)] ++ numF (IntKind.wrap IntKind.u64 x.1) (1 : Int)) + List.length x.2 ≤ (4611686018427387904 : Nat))
          (Tree.need (List.length ([(70 : UInt8)] ++ numF (IntKind.wrap IntKind.u64 x.1) (1 : Int) ++ x.2) ≤ (100000000 : Nat))
            (Tree.leaf (sealF ([(70 : UInt8)] ++ numF (IntKind.wrap IntKind.u64 x.1) (1 : Int) ++ x.2), (0 : Int))))))) := by kernel_rfl
theorem rwrap_ok : CtrOK Try.prog 45 rwrapC :=
  fun_ok (G := rwrapG) (Λ := []) tysOK (ctrs_cons rnum_ok (ctrs_cons rseal_ok ctrs_nil)) mixed (by kernel_rfl) (by kernel_rfl) (by kernel_rfl) (by kernel_rfl) lp_nil fun (x : Int × List UInt8) hw _ => by
    rw [congrFun rwrap_tree x]
    have hl : x.2.length ≤ 4611686018427387904 := hw.2
    have e : rwrapC.fn x = wrapF x.1 x.2 := rfl
    rw [e]
    simp only [Tree.holds, wrapF]
    refine ⟨fun h => by rw [h]; rfl, fun h => ?_⟩
    have h2 : x.2.length ≤ 250 := by
      cases h3 : decide ((x.2.length : Int) > 250) with
      | false => have := of_decide_eq_false h3; omega
      | true => rw [h3] at h; simp at h
    refine ⟨by rw [numF_len1]; omega, ?_, ?_, by rw [h]; rfl⟩
    · rw [List.length_append, numF_len1]; simp; omega
    · rw [List.length_append, List.length_append, numF_len1]; simp; omega
end Go.Ev.P
/- Frames opened. -/
set_option linter.unusedVariables false
set_option linter.unusedSimpArgs false
namespace Go.Ev.P
open Go.Proofs
def rtakeC : Ctr := { args := [.str, .int .i64], res := [.int .u64, .str, .int .i64], pre := none, fn := fun (x : List UInt8 × Int) => takeF x.1 x.2 }
def rtakeD : LoopD where
  prom := []
  ts := [(0, .val .str), (7, .val (.int .u64)), (19, .val (.int .i64)), (20, .val (.int .i64))]
  bs := []
  pre := fun (x : (List UInt8 × Int × Int × Int × Unit) × Unit) => 0 ≤ x.1.2.2.2.1 ∧ x.1.2.2.2.1 ≤ x.1.2.2.1 ∧ x.1.2.2.1 ≤ x.1.1.length ∧ x.1.2.2.1 ≤ 8 ∧ x.1.2.1 = bigN (x.1.1.take x.1.2.2.2.1.toNat)
  out := fun (x : (List UInt8 × Int × Int × Int × Unit) × Unit) => .leaf (.exit 0, ((x.1.1, (bigN (x.1.1.take x.1.2.2.1.toNat) : Int), x.1.2.2.1, x.1.2.2.1, ()), ()))
theorem rtake_round : (fun x : (List UInt8 × Int × Int × Int × Unit) × Unit => roundOf (mkC tys [] [(0, rtakeD.spec)]) rtakeD (loopB 0 (bodyOf (fnOf Try.prog 136))) x) =
  (fun x =>
    Tree.br (decide (x.1.2.2.2.1 < x.1.2.2.1))
      (Tree.need ((0 : Int) ≤ x.1.2.2.2.1 ∧ x.1.2.2.2.1 < (↑(List.length x.1.1) : Int))
        (Tree.leaf
          (Ex.normal,
            some
              ((x.1.1,
                  IntKind.wrap IntKind.u64 (IntKind.wrap IntKind.u64 (x.1.2.1 * (256 : Int)) + IntKind.wrap IntKind.u64 (↑(UInt8.toNat (List.getD x.1.1 (Int.toNat x.1.2.2.2.1) (0 : UInt8))) : Int)),
                  x.1.2.2.1, IntKind.wrap IntKind.i64 (x.1.2.2.2.1 + (1 : Int)), ()),
                ()))))
      (Tree.leaf (Ex.exit (0 : Nat), some ((x.1.1, x.1.2.1, x.1.2.2.1, x.1.2.2.2.1, ()), ())))) := by kernel_rfl
theorem rtake_loop : LoopOK (mkC tys [] [(0, rtakeD.spec)]) rtakeD.spec (loopB 0 (bodyOf (fnOf Try.prog 136))) :=
  loopD_ok1 (fun _ => rfl) (fun x => congrFun rtake_round x) (fun (x : (List UInt8 × Int × Int × Int × Unit) × Unit) => (x.1.2.2.1 - x.1.2.2.2.1).toNat) fun (x : (List UInt8 × Int × Int × Int × Unit) × Unit) hp => by
    obtain ⟨⟨s, n, m, i, ⟨⟩⟩, ⟨⟩⟩ := x
    obtain ⟨h1, h2, h3, h4, h5⟩ := hp
    simp only at h1 h2 h3 h4 h5
    subst h5
    simp only [Tree.holds]
    refine ⟨fun h => ?_, fun h => ?_⟩
    · have h' : i < m := by simpa using h
      have e : IntKind.i64.wrap (i + 1) = i + 1 := i64_id (by omega) (by omega)
      refine ⟨⟨h1, by omega⟩, _, rfl, ⟨?_, ?_, h3, h4, ?_⟩, ?_, rfl⟩
      · show 0 ≤ IntKind.i64.wrap (i + 1); omega
      · show IntKind.i64.wrap (i + 1) ≤ m; omega
      · show _ = ((bigN (s.take (IntKind.i64.wrap (i + 1)).toNat) : Nat) : Int)
        rw [e]
        exact take_add h1 (by omega) (by omega)
      · show (m - IntKind.i64.wrap (i + 1)).toNat < (m - i).toNat; omega
    · have h' : ¬ i < m := by simpa using h
      have hm : i = m := by omega
      subst hm
      exact ⟨_, rfl, rfl⟩
theorem rtake_tree : (fun x : List UInt8 × Int => evFn (mkC tys [] [(0, rtakeD.spec)]) (fnOf Try.prog 136) (resL rtakeC.args x) rtakeC.res) =
  (fun x =>
    Tree.br (bif decide (x.2 < (0 : Int)) then true else decide (x.2 > (8 : Int))) (Tree.leaf ((0 : Int), [], (1 : Int)))
      (Tree.br (decide ((↑(List.length x.1) : Int) < x.2)) (Tree.leaf ((0 : Int), [], (2 : Int)))
        (Tree.need ((0 : Int) ≤ (0 : Int) ∧ (0 : Int) ≤ x.2 ∧ x.2 ≤ (↑(List.length x.1) : Int) ∧ x.2 ≤ (8 : Int) ∧ (0 : Int) = (↑(bigN (List.take (Int.toNat (0 : Int)) x.1)) : Int))
          (Tree.need ((0 : Int) ≤ x.2 ∧ x.2 ≤ (↑(List.length x.1) : Int)) (Tree.leaf ((↑(bigN (List.take (Int.toNat x.2) x.1)) : Int), List.drop (Int.toNat x.2) x.1, (0 : Int))))))) := by kernel_rfl
theorem rtake_ok : CtrOK Try.prog 136 rtakeC :=
  fun_ok tysOK ctrs_nil mixed (by kernel_rfl) (by kernel_rfl) (by kernel_rfl) (by kernel_rfl) (lp_cons rtake_loop lp_nil) fun (x : List UInt8 × Int) hw _ => by
    rw [congrFun rtake_tree x]
    obtain ⟨s, k⟩ := x
    simp only [Tree.holds, rtakeC, takeF]
    refine ⟨fun h => by rw [h]; rfl, fun h => ⟨fun h' => by rw [h, h']; rfl, fun h' => ?_⟩⟩
    have h1 : 0 ≤ k ∧ k ≤ 8 := by
      cases hc : decide (k < 0) with
      | true => rw [hc] at h; cases h
      | false => rw [hc] at h; simp at h hc; omega
    have h2 : k ≤ s.length := by simpa using h'
    exact ⟨⟨by omega, h1.1, h2, h1.2, rfl⟩, ⟨h1.1, h2⟩, by rw [h, h']; rfl⟩
def ropen2G : List (Nat × Ctr) := [(136, rtakeC), (135, rsumC)]
theorem ropen2G_ok : CtrsOK Try.prog (fun f => lk f ropen2G) := (ctrs_cons rtake_ok (ctrs_cons rsum_ok ctrs_nil))
def ropen2C : Ctr := { args := [.str], res := [.str, .int .i64], pre := none, fn := fun (x : List UInt8) => unsealF x }
theorem ropen2_tree : (fun x : List UInt8 => evFn (mkC tys ropen2G []) (fnOf Try.prog 95) (resL ropen2C.args x) ropen2C.res) =
  (fun x =>
    Tree.br (decide ((↑(List.length x) : Int) < (4 : Int))) (Tree.leaf ([], (2 : Int)))
      (Tree.need ((0 : Int) ≤ IntKind.wrap IntKind.i64 ((↑(List.length x) : Int) - (4 : Int)) ∧ IntKind.wrap IntKind.i64 ((↑(List.length x) : Int) - (4 : Int)) ≤ (↑(List.length x) : Int))
        (Tree.need ((0 : Int) ≤ IntKind.wrap IntKind.i64 ((↑(List.length x) : Int) - (4 : Int)) ∧ IntKind.wrap IntKind.i64 ((↑(List.length x) : Int) - (4 : Int)) ≤ (↑(List.length x) : Int))
          (Tree.br
            (IntKind.wrap IntKind.u64 (sumF (List.take (Int.toNat (IntKind.wrap IntKind.i64 ((↑(List.length x) : Int) - (4 : Int)))) x)) !=
              (takeF (List.drop (Int.toNat (IntKind.wrap IntKind.i64 ((↑(List.length x) : Int) - (4 : Int)))) x) (4 : Int)).1)
            (Tree.leaf ([], (5 : Int)))
            (Tree.need ((0 : Int) ≤ IntKind.wrap IntKind.i64 ((↑(List.length x) : Int) - (4 : Int)) ∧ IntKind.wrap IntKind.i64 ((↑(List.length x) : Int) - (4 : Int)) ≤ (↑(List.length x) : Int))
              (Tree.leaf (List.take (Int.toNat (IntKind.wrap IntKind.i64 ((↑(List.length x) : Int) - (4 : Int)))) x, (0 : Int)))))))) := by kernel_rfl
theorem ropen2_ok : CtrOK Try.prog 95 ropen2C :=
  fun_ok (G := ropen2G) (Λ := []) tysOK ropen2G_ok mixed (by kernel_rfl) (by kernel_rfl) (by kernel_rfl) (by kernel_rfl) lp_nil fun (x : List UInt8) hw _ => by
    rw [congrFun ropen2_tree x]
    have hl : x.length ≤ 4611686018427387904 := hw
    have e : ropen2C.fn x = unsealF x := rfl
    rw [e]
    simp only [Tree.holds, unsealF]
    refine ⟨fun h => by rw [h]; rfl, fun h => ?_⟩
    have h4 : ¬ (x.length : Int) < 4 := by simpa using h
    have e1 : IntKind.i64.wrap ((x.length : Int) - 4) = (x.length : Int) - 4 := i64_id (by omega) (by omega)
    have e2 : ((x.length : Int) - 4).toNat = x.length - 4 := by omega
    rw [e1, e2]
    have hd : (x.drop (x.length - 4)).length = 4 := by rw [List.length_drop]; omega
    have e3 : (takeF (x.drop (x.length - 4)) 4).1 = (bigN (x.drop (x.length - 4)) : Int) := by
      rw [takeF4 (by omega)]
      show (bigN ((x.drop (x.length - 4)).take 4) : Int) = _
      rw [List.take_of_length_le (by omega)]
    rw [e3]
    refine ⟨by omega, by omega, fun h2 => by rw [h, h2]; rfl, fun h2 => ⟨by omega, by rw [h, h2]; rfl⟩⟩
def ropenG : List (Nat × Ctr) := [(95, ropen2C)]
theorem ropenG_ok : CtrsOK Try.prog (fun f => lk f ropenG) := (ctrs_cons ropen2_ok ctrs_nil)
def ropenC : Ctr := { args := [.str], res := [.int .i64, .str, .int .i64], pre := none, fn := fun (x : List UInt8) => openF x }
theorem ropen_tree : (fun x : List UInt8 => evFn (mkC tys ropenG []) (fnOf Try.prog 47) (resL ropenC.args x) ropenC.res) =
  (fun x =>
    Tree.br (decide ((↑(List.length x) : Int) > (256 : Int))) (Tree.leaf ((0 : Int), [], (4 : Int)))
      (Tree.br ((unsealF x).2 != (0 : Int)) (Tree.leaf ((0 : Int), [], (unsealF x).2))
        (Tree.br (decide ((↑(List.length (unsealF x).1) : Int) < (2 : Int))) (Tree.leaf ((0 : Int), [], (2 : Int)))
          (Tree.need ((0 : Int) ≤ (0 : Int) ∧ (0 : Int) < (↑(List.length (unsealF x).1) : Int))
            (Tree.need
              ((((↑(UInt8.toNat (List.getD (unsealF x).1 (0 : Nat) (0 : UInt8))) : Int) != (70 : Int)) == false && true) = true →
                (0 : Int) ≤ (1 : Int) ∧ (1 : Int) < (↑(List.length (unsealF x).1) : Int))
              (Tree.need
                (((bif (↑(UInt8.toNat (List.getD (unsealF x).1 (0 : Nat) (0 : UInt8))) : Int) != (70 : Int) then true
                        else decide ((↑(UInt8.toNat (List.getD (unsealF x).1 (1 : Nat) (0 : UInt8))) : Int) < (1 : Int))) ==
                        false &&
                      true) =
                    true →
                  (0 : Int) ≤ (1 : Int) ∧ (1 : Int) < (↑(List.length (unsealF x).1) : Int))
                (Tree.br
                  (bif
                      bif (↑(UInt8.toNat (List.getD (unsealF x).1 (0 : Nat) (0 : UInt8))) : Int) != (70 : Int) then true
                      else decide ((↑(UInt8.toNat (List.getD (unsealF x).1 (1 : Nat) (0 : UInt8))) : Int) < (1 : Int)) then
                    true
                  else decide ((↑(UInt8.toNat (List.getD (unsealF x).1 (1 : Nat) (0 : UInt8))) : Int) > (4 : Int)))
                  (Tree.leaf ((0 : Int), [], (3 : Int)))
                  (Tree.need ((0 : Int) ≤ (1 : Int) ∧ (1 : Int) < (↑(List.length (unsealF x).1) : Int))
                    (Tree.need ((0 : Int) ≤ (2 : Int) ∧ (2 : Int) ≤ (↑(List.length (unsealF x).1) : Int))
                      (Tree.leaf (IntKind.wrap IntKind.i64 (↑(UInt8.toNat (List.getD (unsealF x).1 (1 : Nat) (0 : UInt8))) : Int), List.drop (2 : Nat) (unsealF x).1, (0 : Int)))))))))))) := by kernel_rfl
theorem ropen_ok : CtrOK Try.prog 47 ropenC :=
  fun_ok (G := ropenG) (Λ := []) tysOK ropenG_ok mixed (by kernel_rfl) (by kernel_rfl) (by kernel_rfl) (by kernel_rfl) lp_nil fun (x : List UInt8) hw _ => by
    rw [congrFun ropen_tree x]
    have e : ropenC.fn x = openF x := rfl
    rw [e]
    simp only [Tree.holds, openF]
    refine ⟨fun h => by rw [h]; rfl, fun h => ⟨fun h2 => by rw [h, h2]; rfl, fun h2 => ⟨fun h3 => by rw [h, h2, h3]; rfl, fun h3 => ?_⟩⟩⟩
    have hl : ¬ (((unsealF x).1.length : Int) < 2) := by simpa using h3
    refine ⟨by omega, fun _ => by omega, fun _ => by omega, fun h4 => by rw [h, h2, h3, h4]; rfl, fun h4 => ⟨by omega, by omega, by rw [h, h2, h3, h4]; rfl⟩⟩
end Go.Ev.P
