/- The functions of 'nodes', 'costs', 'valid' keep their contracts. -/
import Derived.Test.YtohodbfoeejbjaaPFwd
import Derived.Test.YtohodbfoeejbjaaEvNodes
set_option linter.unusedVariables false
set_option linter.unusedSimpArgs false
namespace Go.Ev.P
open Go.Proofs
def hasC : Ctr := { args := [.int .i64, .int .i64], res := [.bool], pre := none, fn := fun (x : Int × Int) => hasF x.1 x.2 }
def hasG : List (Nat × Ctr) := [(35, rightC)]
theorem has_tree : (fun x : Int × Int => evFn (mkC tys hasG []) (fnOf Try.prog 81) (resL hasC.args x) hasC.res) =
  (fun x =>
    Tree.need ((rightF x.2 == true && true) = true → (0 : Int) ≤ x.2)
      (Tree.leaf (bif rightF x.2 then bitsOp BinOp.and IntKind.i64 (Int.fdiv x.1 ((2 : Int) ^ min (Int.toNat x.2) (64 : Nat))) (1 : Int) == (1 : Int) else false))) := by kernel_rfl
theorem has_ok : CtrOK Try.prog 81 hasC :=
  fun_ok (G := hasG) (Λ := []) tysOK (ctrs_cons right_ok ctrs_nil) mixed (by kernel_rfl) (by kernel_rfl) (by kernel_rfl) (by kernel_rfl) lp_nil fun (x : Int × Int) hw _ => by
    rw [congrFun has_tree x]
    exact holds_val (d := hasC.fn x) (by kernel_rfl) (by simp [Tree.safe]; intro h; exact (rightF_iff.1 h).1)
def withC : Ctr := { args := [.int .i64, .int .i64], res := [.int .i64], pre := none, fn := fun (x : Int × Int) => withF x.1 x.2 }
def withG : List (Nat × Ctr) := [(35, rightC)]
theorem with_tree : (fun x : Int × Int => evFn (mkC tys withG []) (fnOf Try.prog 129) (resL withC.args x) withC.res) =
  (fun x =>
    Tree.br (!rightF x.2) (Tree.leaf x.1) (Tree.need ((0 : Int) ≤ x.2) (Tree.leaf (bitsOp BinOp.or IntKind.i64 x.1 (IntKind.wrap IntKind.i64 ((1 : Int) * (2 : Int) ^ min (Int.toNat x.2) (64 : Nat))))))) := by kernel_rfl
theorem with_ok : CtrOK Try.prog 129 withC :=
  fun_ok (G := withG) (Λ := []) tysOK (ctrs_cons right_ok ctrs_nil) mixed (by kernel_rfl) (by kernel_rfl) (by kernel_rfl) (by kernel_rfl) lp_nil fun (x : Int × Int) hw _ => by
    rw [congrFun with_tree x]
    exact holds_val (d := withC.fn x) (by kernel_rfl) (by simp [Tree.safe]; intro h; exact (rightF_iff.1 h).1)
def rrightC : Ctr := { args := [.int .i64], res := [.bool], pre := none, fn := fun (x : Int) => rightF x }
def rrightG : List (Nat × Ctr) := []
theorem rright_tree : (fun x : Int => evFn (mkC tys rrightG []) (fnOf Try.prog 83) (resL rrightC.args x) rrightC.res) =
  (fun x => Tree.leaf (bif decide (x ≥ (0 : Int)) then decide (x < (16 : Int)) else false)) := by kernel_rfl
theorem rright_ok : CtrOK Try.prog 83 rrightC :=
  fun_ok (G := rrightG) (Λ := []) tysOK ctrs_nil mixed (by kernel_rfl) (by kernel_rfl) (by kernel_rfl) (by kernel_rfl) lp_nil fun (x : Int) hw _ => by
    rw [congrFun rright_tree x]
    exact holds_val (d := rrightC.fn x) (by kernel_rfl) (by simp [Tree.safe])
def rhasC : Ctr := { args := [.int .i64, .int .i64], res := [.bool], pre := none, fn := fun (x : Int × Int) => hasF x.1 x.2 }
theorem rhas_tree : (fun x : Int × Int => evFn (mkC tys [(83, rrightC)] []) (fnOf Try.prog 85) (resL rhasC.args x) rhasC.res) =
  (fun x =>
    Tree.need ((rightF x.2 == true && true) = true → (0 : Int) ≤ IntKind.wrap IntKind.u64 x.2)
      (Tree.leaf (bif rightF x.2 then bitsOp BinOp.and IntKind.i64 (Int.fdiv x.1 ((2 : Int) ^ min (Int.toNat (IntKind.wrap IntKind.u64 x.2)) (64 : Nat))) (1 : Int) == (1 : Int) else false))) := by kernel_rfl
theorem rhas_ok : CtrOK Try.prog 85 rhasC :=
  fun_ok (G := [(83, rrightC)]) (Λ := []) tysOK (ctrs_cons rright_ok ctrs_nil) mixed (by kernel_rfl) (by kernel_rfl) (by kernel_rfl) (by kernel_rfl) lp_nil fun (x : Int × Int) hw _ => by
    rw [congrFun rhas_tree x]
    cases h : rightF x.2 with
    | false => simp [Tree.holds, rhasC, hasF, h]
    | true =>
      have h2 := rightF_iff.1 h
      have e : IntKind.u64.wrap x.2 = x.2 := u64_id h2.1 (by omega)
      simp only [Tree.holds, rhasC, hasF, h, e, bitF]
      exact ⟨fun _ => h2.1, trivial⟩
def rcostC : Ctr := { args := [.int .u32], res := [.bool], pre := none, fn := fun (x : Int) => rcostF x }
def rcostG : List (Nat × Ctr) := []
theorem rcost_tree : (fun x : Int => evFn (mkC tys rcostG []) (fnOf Try.prog 128) (resL rcostC.args x) rcostC.res) =
  (fun x => Tree.leaf (bif decide (x ≥ (1 : Int)) then decide (x ≤ (65536 : Int)) else false)) := by kernel_rfl
theorem rcost_ok : CtrOK Try.prog 128 rcostC :=
  fun_ok (G := rcostG) (Λ := []) tysOK ctrs_nil mixed (by kernel_rfl) (by kernel_rfl) (by kernel_rfl) (by kernel_rfl) lp_nil fun (x : Int) hw _ => by
    rw [congrFun rcost_tree x]
    exact holds_val (d := rcostC.fn x) (by kernel_rfl) (by simp [Tree.safe])
def withinC : Ctr := { args := [.int .i64, .int .i64, .int .i64], res := [.bool], pre := none, fn := fun (x : Int × Int × Int) => withinF x.1 x.2.1 x.2.2 }
def withinG : List (Nat × Ctr) := []
theorem within_tree : (fun x : Int × Int × Int => evFn (mkC tys withinG []) (fnOf Try.prog 131) (resL withinC.args x) withinC.res) =
  (fun x => Tree.leaf (bif decide (x.1 ≥ x.2.1) then decide (x.1 ≤ x.2.2) else false)) := by kernel_rfl
theorem within_ok : CtrOK Try.prog 131 withinC :=
  fun_ok (G := withinG) (Λ := []) tysOK ctrs_nil mixed (by kernel_rfl) (by kernel_rfl) (by kernel_rfl) (by kernel_rfl) lp_nil fun (x : Int × Int × Int) hw _ => by
    rw [congrFun within_tree x]
    exact holds_val (d := withinC.fn x) (by kernel_rfl) (by simp [Tree.safe])
def rulesC : Ctr := { args := [gRules], res := [.bool], pre := none, fn := fun (x : DRules) => rulesF x }
def rulesG : List (Nat × Ctr) := [(131, withinC)]
theorem rules_tree : (fun x : DRules => evFn (mkC tys rulesG []) (fnOf Try.prog 82) (resL rulesC.args x) rulesC.res) =
  (fun x =>
    Tree.leaf
      (bif bif bif bif withinF x.1 (1 : Int) (100 : Int) then decide (x.2.1 > x.1) else false then decide (x.2.1 ≤ (1000 : Int)) else false then withinF x.2.2.1 (1 : Int) (100 : Int) else false then
        withinF x.2.2.2 (1 : Int) (10 : Int)
      else false)) := by kernel_rfl
theorem rules_ok : CtrOK Try.prog 82 rulesC :=
  fun_ok (G := rulesG) (Λ := []) tysOK (ctrs_cons within_ok ctrs_nil) mixed (by kernel_rfl) (by kernel_rfl) (by kernel_rfl) (by kernel_rfl) lp_nil fun (x : DRules) hw _ => by
    rw [congrFun rules_tree x]
    exact holds_val (d := rulesC.fn x) (by kernel_rfl) (by simp [Tree.safe])
def rrulesC : Ctr := { args := [gRules], res := [.bool], pre := none, fn := fun (x : DRules) => rulesF x }
theorem rrules_tree : (fun x : DRules => evFn (mkC tys [] []) (fnOf Try.prog 86) (resL rrulesC.args x) rrulesC.res) =
  (fun x =>
    Tree.leaf
      (bif
          bif
              bif
                  bif bif bif bif decide (x.1 ≥ (1 : Int)) then decide (x.1 ≤ (100 : Int)) else false then decide (x.2.1 > x.1) else false then decide (x.2.1 ≤ (1000 : Int)) else false then
                    decide (x.2.2.1 ≥ (1 : Int))
                  else false then
                decide (x.2.2.1 ≤ (100 : Int))
              else false then
            decide (x.2.2.2 ≥ (1 : Int))
          else false then
        decide (x.2.2.2 ≤ (10 : Int))
      else false)) := by kernel_rfl
theorem rrules_ok : CtrOK Try.prog 86 rrulesC :=
  fun_ok (G := []) (Λ := []) tysOK ctrs_nil mixed (by kernel_rfl) (by kernel_rfl) (by kernel_rfl) (by kernel_rfl) lp_nil fun (x : DRules) hw _ => by
    rw [congrFun rrules_tree x]
    simp only [Tree.holds, rrulesC, rulesF, withinF]
    cases h1 : decide (x.1 ≥ 1) <;> cases h2 : decide (x.1 ≤ 100) <;> cases h3 : decide (x.2.1 > x.1) <;> cases h4 : decide (x.2.1 ≤ 1000) <;> cases h5 : decide (x.2.2.1 ≥ 1) <;> cases h6 : decide (x.2.2.1 ≤ 100) <;> rfl
def csetC : Ctr := { args := [gCosts, .int .i64, .int .u32], res := [gCosts, .int .i64], pre := none, fn := fun (x : DCosts × Int × Int) => csetF x.1 x.2.1 x.2.2 }
def csetG : List (Nat × Ctr) := [(35, rightC), (128, rcostC), (129, withC)]
theorem cset_tree : (fun x : DCosts × Int × Int => evFn (mkC tys csetG []) (fnOf Try.prog 79) (resL csetC.args x) csetC.res) =
  (fun x =>
    Tree.br (bif !rightF x.2.1 then true else !rcostF x.2.2) (Tree.leaf (x.1, (1 : Int)))
      (Tree.need ((0 : Int) ≤ x.2.1 ∧ x.2.1 < (16 : Int)) (Tree.leaf ((withF x.1.1 x.2.1, List.set x.1.2 (Int.toNat x.2.1) x.2.2), (0 : Int))))) := by kernel_rfl
theorem cset_ok : CtrOK Try.prog 79 csetC :=
  fun_ok (G := csetG) (Λ := []) tysOK (ctrs_cons right_ok (ctrs_cons rcost_ok (ctrs_cons with_ok ctrs_nil))) mixed (by kernel_rfl) (by kernel_rfl) (by kernel_rfl) (by kernel_rfl) lp_nil fun (x : DCosts × Int × Int) hw _ => by
    rw [congrFun cset_tree x]
    exact holds_val (d := csetC.fn x) (by kernel_rfl) (by simp [Tree.safe]; intro h _; exact rightF_iff.1 h)
def listD : LoopD where
  prom := [(3, 1003, 3, .int .i64)]
  ts := [(0, .val (.int .i64)), (3, .tip 1003), (5, .val (.int .i64))]
  bs := [(1003, .row 3 (.int .i64) false)]
  pre := fun (x : (Int × Int × Unit) × List Int × Unit) => 0 ≤ x.1.2.1 ∧ x.1.2.1 ≤ 16 ∧ (x.2.1.length : Int) ≤ x.1.2.1
  out := fun (x : (Int × Int × Unit) × List Int × Unit) => .leaf (.exit 0, ((x.1.1, 16, ()), x.2.1 ++ elemsF x.1.1 (16 - x.1.2.1).toNat, ()))
def listG : List (Nat × Ctr) := [(81, hasC)]
theorem listG_ok : CtrsOK Try.prog (fun f => lk f listG) := (ctrs_cons has_ok ctrs_nil)
def listC : Ctr := { args := [.int .i64], res := [.sl (.int .i64)], pre := none, fn := fun (x : Int) => elemsF x 16 }
theorem list_round : (fun x : (Int × Int × Unit) × List Int × Unit => roundOf (mkC tys listG [(0, listD.spec)]) listD (loopB 0 (bodyOf (fnOf Try.prog 166))) x) =
  (fun x =>
    Tree.br (decide (x.1.2.1 < (16 : Int)))
      (Tree.need (hasF x.1.1 x.1.2.1 = true → (List.length x.2.1 + (1 : Nat)) * (8 : Nat) ≤ (140737488355328 : Nat))
        (Tree.leaf (Ex.normal, some ((x.1.1, IntKind.wrap IntKind.i64 (x.1.2.1 + (1 : Int)), ()), bif hasF x.1.1 x.1.2.1 then x.2.1 ++ [x.1.2.1] else x.2.1, ()))))
      (Tree.leaf (Ex.exit (0 : Nat), some ((x.1.1, x.1.2.1, ()), x.2.1, ())))) := by kernel_rfl
theorem list_loop : LoopOK (mkC tys listG [(0, listD.spec)]) listD.spec (loopB 0 (bodyOf (fnOf Try.prog 166))) :=
  loopD_ok1 (fun _ => rfl) (fun x => congrFun list_round x) (fun (x : (Int × Int × Unit) × List Int × Unit) => (16 - x.1.2.1).toNat) fun (x : (Int × Int × Unit) × List Int × Unit) hp => by
    obtain ⟨⟨s, i, ⟨⟩⟩, out, ⟨⟩⟩ := x
    exact list_step hp
theorem list_tree : (fun x : Int => evFn (mkC tys listG [(0, listD.spec)]) (fnOf Try.prog 166) (resL listC.args x) listC.res) =
  (fun x => Tree.need ((0 : Int) ≤ (0 : Int) ∧ (0 : Int) ≤ (16 : Int) ∧ (↑(0 : Nat) : Int) ≤ (0 : Int)) (Tree.leaf ([] ++ elemsF x (Int.toNat ((16 : Int) - (0 : Int)))))) := by kernel_rfl
theorem list_ok : CtrOK Try.prog 166 listC :=
  fun_ok (G := listG) (Λ := [(0, listD.spec)]) tysOK listG_ok mixed (by kernel_rfl) (by kernel_rfl) (by kernel_rfl) (by kernel_rfl) (lp_cons list_loop lp_nil) fun (x : Int) hw _ => by
    rw [congrFun list_tree x]
    exact ⟨⟨by omega, by omega, by omega⟩, rfl⟩
def rlistG : List (Nat × Ctr) := [(85, rhasC)]
theorem rlistG_ok : CtrsOK Try.prog (fun f => lk f rlistG) := (ctrs_cons rhas_ok ctrs_nil)
def rlistC : Ctr := { args := [.int .i64], res := [.sl (.int .i64)], pre := none, fn := fun (x : Int) => elemsF x 16 }
theorem rlist_round : (fun x : (Int × Int × Unit) × List Int × Unit => roundOf (mkC tys rlistG [(0, listD.spec)]) listD (loopB 0 (bodyOf (fnOf Try.prog 132))) x) =
  (fun x =>
    Tree.br (decide (x.1.2.1 < (16 : Int)))
      (Tree.need (hasF x.1.1 x.1.2.1 = true → (List.length x.2.1 + (1 : Nat)) * (8 : Nat) ≤ (140737488355328 : Nat))
        (Tree.leaf (Ex.normal, some ((x.1.1, IntKind.wrap IntKind.i64 (x.1.2.1 + (1 : Int)), ()), bif hasF x.1.1 x.1.2.1 then x.2.1 ++ [x.1.2.1] else x.2.1, ()))))
      (Tree.leaf (Ex.exit (0 : Nat), some ((x.1.1, x.1.2.1, ()), x.2.1, ())))) := by kernel_rfl
theorem rlist_loop : LoopOK (mkC tys rlistG [(0, listD.spec)]) listD.spec (loopB 0 (bodyOf (fnOf Try.prog 132))) :=
  loopD_ok1 (fun _ => rfl) (fun x => congrFun rlist_round x) (fun (x : (Int × Int × Unit) × List Int × Unit) => (16 - x.1.2.1).toNat) fun (x : (Int × Int × Unit) × List Int × Unit) hp => by
    obtain ⟨⟨s, i, ⟨⟩⟩, out, ⟨⟩⟩ := x
    exact list_step hp
theorem rlist_tree : (fun x : Int => evFn (mkC tys rlistG [(0, listD.spec)]) (fnOf Try.prog 132) (resL rlistC.args x) rlistC.res) =
  (fun x => Tree.need ((0 : Int) ≤ (0 : Int) ∧ (0 : Int) ≤ (16 : Int) ∧ (↑(0 : Nat) : Int) ≤ (0 : Int)) (Tree.leaf ([] ++ elemsF x (Int.toNat ((16 : Int) - (0 : Int)))))) := by kernel_rfl
theorem rlist_ok : CtrOK Try.prog 132 rlistC :=
  fun_ok (G := rlistG) (Λ := [(0, listD.spec)]) tysOK rlistG_ok mixed (by kernel_rfl) (by kernel_rfl) (by kernel_rfl) (by kernel_rfl) (lp_cons rlist_loop lp_nil) fun (x : Int) hw _ => by
    rw [congrFun rlist_tree x]
    exact ⟨⟨by omega, by omega, by omega⟩, rfl⟩
end Go.Ev.P
