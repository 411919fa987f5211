/- The laws of 'epoch' answer true. -/
import Derived.Test.YtohodbfoeejbjaaPEpoch2
import Derived.Test.YtohodbfoeejbjaaEvLawEpoch
set_option linter.unusedVariables false
set_option linter.unusedSimpArgs false
namespace Go.Ev.P
open Go.Proofs

def epochG : List (Nat × Ctr) := [(23, newerC), (24, nextC), (25, rebootC), (29, noneC), (30, swapC), (31, sameC), (28, bytesC), (27, readC)]
theorem epochG_ok : CtrsOK Try.prog (fun f => lk f epochG) := ctrs_cons newer_ok (ctrs_cons next_ok (ctrs_cons reboot_ok (ctrs_cons none_ok (ctrs_cons swap_ok (ctrs_cons same_ok (ctrs_cons bytes_ok (ctrs_cons read_ok ctrs_nil)))))))
def awake05C : Ctr := { args := [], res := [.bool], pre := none, fn := fun _ => true }
theorem awake05_tree : (fun x : Unit => evFn (mkC tys epochG []) (fnOf Try.prog 26) (resL awake05C.args x) awake05C.res) =
  (fun x => Tree.need ((17 : Nat) ≤ (4611686018427387904 : Nat)) (Tree.leaf true)) := by kernel_rfl
theorem awake05_ok : CtrOK Try.prog 26 awake05C :=
  fun_ok (G := epochG) (Λ := []) tysOK epochG_ok mixed (by kernel_rfl) (by kernel_rfl) (by kernel_rfl) (by kernel_rfl) lp_nil fun x hw _ => by
    rw [congrFun awake05_tree x]
    simp [Tree.holds, awake05C]
def lawOrderC : Ctr := { args := [gE, gE, gE], res := [.bool], pre := some (smallD [gE, gE, gE]), fn := fun _ => true }
def lawOrderG : List (Nat × Ctr) := (26, awake05C) :: epochG
theorem order_tree : (fun x : (Int × Int) × (Int × Int) × (Int × Int) => evFn (mkC tys lawOrderG []) (fnOf Try.prog 5) (resL lawOrderC.args x) lawOrderC.res) =
  (fun x =>
    Tree.br
      (bif
          bif bif newerF x.1 x.2.1 then newerF x.2.1 x.1 else false then true
          else !geq GTy.bool (geq (GTy.prod (GTy.int IntKind.u32) (GTy.int IntKind.u32)) x.1 x.2.1) (bif !newerF x.1 x.2.1 then !newerF x.2.1 x.1 else false) then
        true
      else bif bif newerF x.1 x.2.1 then newerF x.2.1 x.2.2 else false then !newerF x.1 x.2.2 else false)
      (Tree.leaf false)
      (Tree.leaf
        (bif
            bif bif bif (nextF x.1).2 != (0 : Int) then true else newerF (nextF x.1).1 x.1 then bif (rebootF x.1).2 != (0 : Int) then true else newerF (rebootF x.1).1 x.1 else false then
              bif bif (nextF x.1).2 != (0 : Int) then true else (rebootF x.1).2 != (0 : Int) then true else newerF (rebootF x.1).1 (nextF x.1).1
            else false then
          true
        else false))) := by kernel_rfl
theorem order_ok : CtrOK Try.prog 5 lawOrderC :=
  fun_ok (G := lawOrderG) (Λ := []) tysOK (ctrs_cons awake05_ok epochG_ok) mixed (by kernel_rfl) (by kernel_rfl) (by kernel_rfl) (by kernel_rfl) lp_nil fun (x : (Int × Int) × (Int × Int) × (Int × Int)) hw _ => by
    rw [congrFun order_tree x]
    simp only [Tree.holds]
    exact ⟨(fun h => by rw [order_no] at h; cases h), fun _ => order_yes _⟩
def lawBackC : Ctr := { args := [gPair, .str], res := [.bool], pre := some (smallD [gPair, .str]), fn := fun _ => true }
theorem back_tree : (fun x : ((Int × Int) × (Int × Int)) × List UInt8 => evFn (mkC tys lawOrderG []) (fnOf Try.prog 6) (resL lawBackC.args x) lawBackC.res) =
  (fun x =>
    Tree.br (decide ((↑(List.length x.2) : Int) > (300 : Int))) (Tree.leaf true)
      (Tree.need (List.length (pairB x.1) + List.length x.2 ≤ (4611686018427387904 : Nat))
        (Tree.leaf
          (bif
              bif
                  bif
                      bif
                          bif (readF (pairB x.1 ++ x.2)).2.2 == (0 : Int) then
                            geq (GTy.prod (GTy.prod (GTy.int IntKind.u32) (GTy.int IntKind.u32)) (GTy.prod (GTy.int IntKind.u32) (GTy.int IntKind.u32))) (readF (pairB x.1 ++ x.2)).1 x.1
                          else false then
                        (readF (pairB x.1 ++ x.2)).2.1 == x.2
                      else false then
                    geq (GTy.prod (GTy.prod (GTy.int IntKind.u32) (GTy.int IntKind.u32)) (GTy.prod (GTy.int IntKind.u32) (GTy.int IntKind.u32))) (swapF (swapF x.1)) x.1
                  else false then
                geq GTy.bool (sameF x.1 (swapF x.1)) (bif !noneF x.1.1 then !noneF x.1.2 else false)
              else false then
            true
          else false)))) := by kernel_rfl
theorem back_ok : CtrOK Try.prog 6 lawBackC :=
  fun_ok (G := lawOrderG) (Λ := []) tysOK (ctrs_cons awake05_ok epochG_ok) mixed (by kernel_rfl) (by kernel_rfl) (by kernel_rfl) (by kernel_rfl) lp_nil fun (x : ((Int × Int) × (Int × Int)) × List UInt8) hw _ => by
    rw [congrFun back_tree x]
    simp only [Tree.holds]
    refine ⟨fun _ => rfl, fun h => ⟨?_, ?_⟩⟩
    · have h' : (x.2.length : Int) ≤ 300 := by simpa using h
      rw [pairB_len]
      omega
    · rw [read_pair hw.1, geqPair, geqPair, geqB]
      have e : swapF (swapF x.1) = x.1 := rfl
      have e2 : sameF x.1 (swapF x.1) = (!(noneF x.1.1) && !(noneF x.1.2)) := by
        unfold sameF
        rw [e, geqPair]
        simp
      rw [e, e2]
      cases noneF x.1.1 <;> cases noneF x.1.2 <;> simp [lawBackC]
end Go.Ev.P
