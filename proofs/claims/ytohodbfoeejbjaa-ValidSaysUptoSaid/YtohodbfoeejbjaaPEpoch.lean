/- The functions of 'epoch' and 'pack' keep their contracts. -/
import Derived.Test.YtohodbfoeejbjaaPT
import Derived.Test.YtohodbfoeejbjaaEvEpoch
set_option linter.unusedVariables false
set_option linter.unusedSimpArgs false
namespace Go.Ev.P
open Go.Proofs

def newerC : Ctr := { args := [gE, gE], res := [.bool], pre := none, fn := fun (x : (Int × Int) × (Int × Int)) => newerF x.1 x.2 }
def nextC : Ctr := { args := [gE], res := [gE, .int .i64], pre := none, fn := fun (x : Int × Int) => nextF x }
def rebootC : Ctr := { args := [gE], res := [gE, .int .i64], pre := none, fn := fun (x : Int × Int) => rebootF x }
def noneC : Ctr := { args := [gE], res := [.bool], pre := none, fn := fun (x : Int × Int) => noneF x }
def swapC : Ctr := { args := [gPair], res := [gPair], pre := none, fn := fun (x : (Int × Int) × (Int × Int)) => swapF x }
def sameC : Ctr := { args := [gPair, gPair], res := [.bool], pre := none, fn := fun (x : ((Int × Int) × (Int × Int)) × ((Int × Int) × (Int × Int))) => sameF x.1 x.2 }

theorem newer_tree : (fun x : dens newerC.args => evFn (mkC tys [] []) (fnOf Try.prog 23) (resL newerC.args x) newerC.res) =
  (fun x => Tree.br (x.1.1 != x.2.1) (Tree.leaf (decide (x.1.1 > x.2.1))) (Tree.leaf (decide (x.1.2 > x.2.2)))) := by kernel_rfl
theorem newer_ok : CtrOK Try.prog 23 newerC :=
  fun_ok (G := []) (Λ := []) tysOK ctrs_nil mixed (by kernel_rfl) (by kernel_rfl) (by kernel_rfl) (by kernel_rfl) (by simp) fun x _ _ => by
    rw [congrFun newer_tree x]
    simp only [Tree.holds, newerC, newerF]
    exact ⟨fun h => by rw [h]; rfl, fun h => by rw [h]; rfl⟩
theorem next_tree : (fun x : dens nextC.args => evFn (mkC tys [] []) (fnOf Try.prog 24) (resL nextC.args x) nextC.res) =
  (fun x => Tree.br (x.2 == (4294967295 : Int)) (Tree.leaf (((0 : Int), (0 : Int)), (11 : Int))) (Tree.leaf ((x.1, IntKind.wrap IntKind.u32 (x.2 + (1 : Int))), (0 : Int)))) := by kernel_rfl
theorem next_ok : CtrOK Try.prog 24 nextC :=
  fun_ok (G := []) (Λ := []) tysOK ctrs_nil mixed (by kernel_rfl) (by kernel_rfl) (by kernel_rfl) (by kernel_rfl) (by simp) fun (x : Int × Int) hw _ => by
    rw [congrFun next_tree x]
    simp only [Tree.holds, nextC, nextF]
    refine ⟨fun h => by rw [h]; rfl, fun h => ?_⟩
    have h2 : IntKind.u32.has x.2 := hw.2
    rw [has_u32] at h2
    have h3 : x.2 ≠ 4294967295 := by simpa using h
    rw [h, u32_id (by omega) (by omega)]
    rfl
theorem reboot_tree : (fun x : dens rebootC.args => evFn (mkC tys [] []) (fnOf Try.prog 25) (resL rebootC.args x) rebootC.res) =
  (fun x => Tree.br (x.1 == (4294967295 : Int)) (Tree.leaf (((0 : Int), (0 : Int)), (11 : Int))) (Tree.leaf ((IntKind.wrap IntKind.u32 (x.1 + (1 : Int)), (0 : Int)), (0 : Int)))) := by kernel_rfl
theorem reboot_ok : CtrOK Try.prog 25 rebootC :=
  fun_ok (G := []) (Λ := []) tysOK ctrs_nil mixed (by kernel_rfl) (by kernel_rfl) (by kernel_rfl) (by kernel_rfl) (by simp) fun (x : Int × Int) hw _ => by
    rw [congrFun reboot_tree x]
    simp only [Tree.holds, rebootC, rebootF]
    refine ⟨fun h => by rw [h]; rfl, fun h => ?_⟩
    have h2 : IntKind.u32.has x.1 := hw.1
    rw [has_u32] at h2
    have h3 : x.1 ≠ 4294967295 := by simpa using h
    rw [h, u32_id (by omega) (by omega)]
    rfl
theorem none_tree : (fun x : dens noneC.args => evFn (mkC tys [] []) (fnOf Try.prog 29) (resL noneC.args x) noneC.res) =
  (fun x => Tree.leaf (geq (GTy.prod (GTy.int IntKind.u32) (GTy.int IntKind.u32)) x ((0 : Int), (0 : Int)))) := by kernel_rfl
theorem none_ok : CtrOK Try.prog 29 noneC :=
  fun_ok (G := []) (Λ := []) tysOK ctrs_nil mixed (by kernel_rfl) (by kernel_rfl) (by kernel_rfl) (by kernel_rfl) (by simp) fun x hw _ => by
    rw [congrFun none_tree x]
    rfl
theorem swap_tree : (fun x : dens swapC.args => evFn (mkC tys [] []) (fnOf Try.prog 30) (resL swapC.args x) swapC.res) =
  (fun x => Tree.leaf (x.2, x.1)) := by kernel_rfl
theorem swap_ok : CtrOK Try.prog 30 swapC :=
  fun_ok (G := []) (Λ := []) tysOK ctrs_nil mixed (by kernel_rfl) (by kernel_rfl) (by kernel_rfl) (by kernel_rfl) (by simp) fun x hw _ => by
    rw [congrFun swap_tree x]
    rfl
theorem same_tree : (fun x : dens sameC.args => evFn (mkC tys [(29, noneC), (30, swapC)] []) (fnOf Try.prog 31) (resL sameC.args x) sameC.res) =
  (fun x =>
    Tree.leaf
      (bif bif geq (GTy.prod (GTy.prod (GTy.int IntKind.u32) (GTy.int IntKind.u32)) (GTy.prod (GTy.int IntKind.u32) (GTy.int IntKind.u32))) x.1 (swapF x.2) then !noneF x.1.1 else false then !noneF x.1.2
      else false)) := by kernel_rfl
theorem same_ok : CtrOK Try.prog 31 sameC :=
  fun_ok (Λ := []) tysOK (ctrs_cons none_ok (ctrs_cons swap_ok ctrs_nil)) mixed (by kernel_rfl) (by kernel_rfl) (by kernel_rfl) (by kernel_rfl) (by simp) fun x hw _ => by
    rw [congrFun same_tree x]
    simp only [Tree.holds, sameC, sameF]
    cases geq gPair x.1 (swapF x.2) <;> cases noneF x.1.1 <;> rfl
end Go.Ev.P
