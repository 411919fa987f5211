/- What is said of configurations answers true. -/
import Derived.Test.YtohodbfoeejbjaaPValid2
set_option linter.unusedVariables false
set_option linter.unusedSimpArgs false
namespace Go.Ev.P
open Go.Proofs
def some36C : Ctr := { args := [.int .i64], res := [gConf], pre := none, fn := fun (x : Int) => (x, (2, 8, 2, 3), 0, List.replicate 16 0) }
def some36G : List (Nat × Ctr) := []
theorem some36_tree : (fun x : Int => evFn (mkC tys some36G []) (fnOf Try.prog 78) (resL some36C.args x) some36C.res) =
  (fun x => Tree.leaf (x, ((2 : Int), (8 : Int), (2 : Int), (3 : Int)), (0 : Int), List.replicate (16 : Nat) (0 : Int))) := by kernel_rfl
theorem some36_ok : CtrOK Try.prog 78 some36C :=
  fun_ok (G := some36G) (Λ := []) tysOK ctrs_nil mixed (by kernel_rfl) (by kernel_rfl) (by kernel_rfl) (by kernel_rfl) lp_nil fun (x : Int) hw _ => by
    rw [congrFun some36_tree x]
    exact holds_val (d := some36C.fn x) (by kernel_rfl) (by simp [Tree.safe])
def awake36C : Ctr := { args := [], res := [.bool], pre := none, fn := fun (x : Unit) => true }
def awake36G : List (Nat × Ctr) := [(78, some36C), (79, csetC), (37, confC), (39, pairC), (41, netC)]
theorem awake36_tree : (fun x : Unit => evFn (mkC tys awake36G [] true) (fnOf Try.prog 36) (resL awake36C.args x) awake36C.res) =
  (fun x => Tree.leaf true) := by kernel_rfl
theorem awake36_ok : CtrOK Try.prog 36 awake36C :=
  fun_okX true (G := awake36G) (Λ := []) tysOK (ctrs_cons some36_ok (ctrs_cons cset_ok (ctrs_cons conf_ok (ctrs_cons pair_ok (ctrs_cons net_ok ctrs_nil))))) mixed (by kernel_rfl) (by kernel_rfl) (by kernel_rfl) (by kernel_rfl) lp_nil fun (x : Unit) hw _ => by
    rw [congrFun awake36_tree x]
    exact holds_val (d := awake36C.fn x) (by kernel_rfl) (by simp [Tree.safe])
def vsaysG : List (Nat × Ctr) := [(36, awake36C), (37, confC), (38, rconfC), (39, pairC), (40, rpairC), (41, netC), (42, rnetC)]
theorem vsaysG_ok : CtrsOK Try.prog (fun f => lk f vsaysG) := (ctrs_cons awake36_ok (ctrs_cons conf_ok (ctrs_cons rconf_ok (ctrs_cons pair_ok (ctrs_cons rpair_ok (ctrs_cons net_ok (ctrs_cons rnet_ok ctrs_nil)))))))
def vsaysC : Ctr := { args := [gConf, gConf, .sl gConf], res := [.bool], pre := some (smallD [gConf, gConf, .sl gConf]), fn := fun _ => true }
theorem vsays_tree : (fun x : DConf × DConf × List DConf => evFn (mkC tys vsaysG []) (fnOf Try.prog 8) (resL vsaysC.args x) vsaysC.res) =
  (fun x =>
    Tree.br (decide ((↑(List.length x.2.2) : Int) > (20 : Int))) (Tree.leaf true)
      (Tree.leaf (bif bif bif confF x.1 == confF x.1 then geq GTy.bool (cpairF x.1 x.2.1) (cpairF x.1 x.2.1) else false then netF x.2.2 == netF x.2.2 else false then true else false))) := by kernel_rfl
theorem vsays_ok : CtrOK Try.prog 8 vsaysC :=
  fun_ok (G := vsaysG) (Λ := []) tysOK vsaysG_ok mixed (by kernel_rfl) (by kernel_rfl) (by kernel_rfl) (by kernel_rfl) lp_nil fun (x : DConf × DConf × List DConf) hw _ => by
    rw [congrFun vsays_tree x]
    simp only [Tree.holds]
    refine ⟨fun _ => rfl, fun _ => ?_⟩
    simp [geqB, vsaysC]
end Go.Ev.P
