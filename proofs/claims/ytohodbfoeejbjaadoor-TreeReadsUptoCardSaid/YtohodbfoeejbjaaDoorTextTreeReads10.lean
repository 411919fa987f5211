/- Trees read. -/
import Derived.Test.YtohodbfoeejbjaaDoorTextTreeReads9

set_option linter.unusedVariables false
set_option linter.unusedSimpArgs false
namespace Go.Ev.D
open Go.Proofs
def tletG : List (Nat × Ctr) := []
def tletC : Ctr := { args := [.int .u8], res := [.int .i64], pre := none, fn := fun (x : Int) => letB x }
theorem tlet_tree : (fun x : Int => evFn (mkC tys tletG []) (fnOf Tryd.prog 146) (resL tletC.args x) tletC.res) =
  (fun x => Tree.br (bif decide (x < (97 : Int)) then true else decide (x > (112 : Int))) (Tree.leaf (-1 : Int)) (Tree.leaf (IntKind.wrap IntKind.i64 (IntKind.wrap IntKind.u8 (x - (97 : Int)))))) := by kernel_rfl
theorem tlet_ok : CtrOK Tryd.prog 146 tletC :=
  fun_ok (G := tletG) (Λ := []) tysOK ctrs_nil mixed (by kernel_rfl) (by kernel_rfl) (by kernel_rfl) (by kernel_rfl) lp_nil fun (x : Int) hw _ => by
    have hx : 0 ≤ x ∧ x ≤ 255 := (has_u8 x).1 (show IntKind.u8.has x from hw)
    rw [congrFun tlet_tree x]
    show (Tree.br _ _ _).holds (fun y => y = letB x)
    simp only [Tree.holds]
    refine ⟨fun h => ?_, fun h => ?_⟩
    · unfold letB; rw [h]; rfl
    · rw [letB_wrap hx.1 hx.2 h]; unfold letB; rw [h]; rfl
def tentG : List (Nat × Ctr) := [(146, tletC), (135, puintC)]
theorem tentG_ok : CtrsOK Tryd.prog (fun f => lk f tentG) := (ctrs_cons tlet_ok (ctrs_cons puint_ok ctrs_nil))
def tentC : Ctr := { args := [.str], res := [.int .i64, gEnt, .str, .bool], pre := some (fun (x : List UInt8) => 1 ≤ x.length ∧ x.length ≤ 1000), fn := entF }
def enD : LoopD where
  prom := []
  ts := [(0, .val .str), (7, .val (.int .i64))]
  bs := []
  pre := fun (x : (List UInt8 × Int × Unit) × Unit) => enPre x
  out := fun (x : (List UInt8 × Int × Unit) × Unit) => out1 0 (runF enStp (enMu x + 1) x)
theorem en_round : (fun x : (List UInt8 × Int × Unit) × Unit => roundOf (mkC tys tentG [(0, enD.spec)]) enD (loopB 0 (bodyOf (fnOf Tryd.prog 128))) x) =
  (fun x =>
    Tree.need ((decide (x.1.2.1 < (↑(List.length x.1.1) : Int)) == true && true) = true → (0 : Int) ≤ x.1.2.1 ∧ x.1.2.1 < (↑(List.length x.1.1) : Int))
      (Tree.need
        (((bif decide (x.1.2.1 < (↑(List.length x.1.1) : Int)) then decide ((↑(UInt8.toNat (List.getD x.1.1 (Int.toNat x.1.2.1) (0 : UInt8))) : Int) ≥ (48 : Int)) else false) == true && true) = true →
          (0 : Int) ≤ x.1.2.1 ∧ x.1.2.1 < (↑(List.length x.1.1) : Int))
        (Tree.br
          (bif bif decide (x.1.2.1 < (↑(List.length x.1.1) : Int)) then decide ((↑(UInt8.toNat (List.getD x.1.1 (Int.toNat x.1.2.1) (0 : UInt8))) : Int) ≥ (48 : Int)) else false then
            decide ((↑(UInt8.toNat (List.getD x.1.1 (Int.toNat x.1.2.1) (0 : UInt8))) : Int) ≤ (57 : Int))
          else false)
          (Tree.leaf (Ex.normal, some ((x.1.1, IntKind.wrap IntKind.i64 (x.1.2.1 + (1 : Int)), ()), ()))) (Tree.leaf (Ex.exit (0 : Nat), some ((x.1.1, x.1.2.1, ()), ())))))) := by kernel_rfl
theorem tent_tree : (fun x : List UInt8 => evFn (mkC tys tentG [(0, enD.spec)]) (fnOf Tryd.prog 128) (resL [.str] x) tentC.res) =
  (fun x =>
    Tree.need ((0 : Int) ≤ (0 : Int) ∧ (0 : Int) < (↑(List.length x) : Int))
      (Tree.need (enPre ((x, (1 : Int), PUnit.unit), PUnit.unit))
        (Tree.need
          ((0 : Int) ≤ (1 : Int) ∧
            (1 : Int) ≤ (runF enStp (enMu ((x, (1 : Int), PUnit.unit), PUnit.unit) + (1 : Nat)) ((x, (1 : Int), PUnit.unit), PUnit.unit)).2.1.2.1 ∧
              (runF enStp (enMu ((x, (1 : Int), PUnit.unit), PUnit.unit) + (1 : Nat)) ((x, (1 : Int), PUnit.unit), PUnit.unit)).2.1.2.1 ≤
                (↑(List.length (runF enStp (enMu ((x, (1 : Int), PUnit.unit), PUnit.unit) + (1 : Nat)) ((x, (1 : Int), PUnit.unit), PUnit.unit)).2.1.1) : Int))
          (Tree.need
            (puPre
              (List.drop (1 : Nat)
                  (List.take (Int.toNat (runF enStp (enMu ((x, (1 : Int), PUnit.unit), PUnit.unit) + (1 : Nat)) ((x, (1 : Int), PUnit.unit), PUnit.unit)).2.1.2.1)
                    (runF enStp (enMu ((x, (1 : Int), PUnit.unit), PUnit.unit) + (1 : Nat)) ((x, (1 : Int), PUnit.unit), PUnit.unit)).2.1.1),
                (10 : Int), (32 : Int)))
            (Tree.need
              (((bif
                          bif decide (letB (↑(UInt8.toNat (List.getD x (0 : Nat) (0 : UInt8))) : Int) < (0 : Int)) then true
                          else
                            (puF
                                (List.drop (1 : Nat)
                                  (List.take (Int.toNat (runF enStp (enMu ((x, (1 : Int), PUnit.unit), PUnit.unit) + (1 : Nat)) ((x, (1 : Int), PUnit.unit), PUnit.unit)).2.1.2.1)
                                    (runF enStp (enMu ((x, (1 : Int), PUnit.unit), PUnit.unit) + (1 : Nat)) ((x, (1 : Int), PUnit.unit), PUnit.unit)).2.1.1))).2 then
                        true
                      else
                        decide
                          ((↑(List.length (runF enStp (enMu ((x, (1 : Int), PUnit.unit), PUnit.unit) + (1 : Nat)) ((x, (1 : Int), PUnit.unit), PUnit.unit)).2.1.1) : Int) <
                            IntKind.wrap IntKind.i64 ((runF enStp (enMu ((x, (1 : Int), PUnit.unit), PUnit.unit) + (1 : Nat)) ((x, (1 : Int), PUnit.unit), PUnit.unit)).2.1.2.1 + (2 : Int)))) ==
                      false &&
                    true) =
                  true →
                (0 : Int) ≤ IntKind.wrap IntKind.i64 ((runF enStp (enMu ((x, (1 : Int), PUnit.unit), PUnit.unit) + (1 : Nat)) ((x, (1 : Int), PUnit.unit), PUnit.unit)).2.1.2.1 + (1 : Int)) ∧
                  IntKind.wrap IntKind.i64 ((runF enStp (enMu ((x, (1 : Int), PUnit.unit), PUnit.unit) + (1 : Nat)) ((x, (1 : Int), PUnit.unit), PUnit.unit)).2.1.2.1 + (1 : Int)) <
                    (↑(List.length (runF enStp (enMu ((x, (1 : Int), PUnit.unit), PUnit.unit) + (1 : Nat)) ((x, (1 : Int), PUnit.unit), PUnit.unit)).2.1.1) : Int))
              (Tree.br
                (bif
                    bif
                        bif decide (letB (↑(UInt8.toNat (List.getD x (0 : Nat) (0 : UInt8))) : Int) < (0 : Int)) then true
                        else
                          (puF
                              (List.drop (1 : Nat)
                                (List.take (Int.toNat (runF enStp (enMu ((x, (1 : Int), PUnit.unit), PUnit.unit) + (1 : Nat)) ((x, (1 : Int), PUnit.unit), PUnit.unit)).2.1.2.1)
                                  (runF enStp (enMu ((x, (1 : Int), PUnit.unit), PUnit.unit) + (1 : Nat)) ((x, (1 : Int), PUnit.unit), PUnit.unit)).2.1.1))).2 then
                      true
                    else
                      decide
                        ((↑(List.length (runF enStp (enMu ((x, (1 : Int), PUnit.unit), PUnit.unit) + (1 : Nat)) ((x, (1 : Int), PUnit.unit), PUnit.unit)).2.1.1) : Int) <
                          IntKind.wrap IntKind.i64 ((runF enStp (enMu ((x, (1 : Int), PUnit.unit), PUnit.unit) + (1 : Nat)) ((x, (1 : Int), PUnit.unit), PUnit.unit)).2.1.2.1 + (2 : Int))) then
                  true
                else
                  (↑(UInt8.toNat
                          (List.getD (runF enStp (enMu ((x, (1 : Int), PUnit.unit), PUnit.unit) + (1 : Nat)) ((x, (1 : Int), PUnit.unit), PUnit.unit)).2.1.1
                            (Int.toNat (IntKind.wrap IntKind.i64 ((runF enStp (enMu ((x, (1 : Int), PUnit.unit), PUnit.unit) + (1 : Nat)) ((x, (1 : Int), PUnit.unit), PUnit.unit)).2.1.2.1 + (1 : Int))))
                            (0 : UInt8))) :
                      Int) !=
                    (32 : Int))
                (Tree.leaf ((0 : Int), ((0 : Int), (0 : Int)), [], false))
                (Tree.need
                  ((0 : Int) ≤ (runF enStp (enMu ((x, (1 : Int), PUnit.unit), PUnit.unit) + (1 : Nat)) ((x, (1 : Int), PUnit.unit), PUnit.unit)).2.1.2.1 ∧
                    (runF enStp (enMu ((x, (1 : Int), PUnit.unit), PUnit.unit) + (1 : Nat)) ((x, (1 : Int), PUnit.unit), PUnit.unit)).2.1.2.1 <
                      (↑(List.length (runF enStp (enMu ((x, (1 : Int), PUnit.unit), PUnit.unit) + (1 : Nat)) ((x, (1 : Int), PUnit.unit), PUnit.unit)).2.1.1) : Int))
                  (Tree.need
                    ((decide
                              (letB
                                  (↑(UInt8.toNat
                                        (List.getD (runF enStp (enMu ((x, (1 : Int), PUnit.unit), PUnit.unit) + (1 : Nat)) ((x, (1 : Int), PUnit.unit), PUnit.unit)).2.1.1
                                          (Int.toNat (runF enStp (enMu ((x, (1 : Int), PUnit.unit), PUnit.unit) + (1 : Nat)) ((x, (1 : Int), PUnit.unit), PUnit.unit)).2.1.2.1) (0 : UInt8))) :
                                    Int) <
                                (0 : Int)) ==
                            true &&
                          true) =
                        true →
                      (0 : Int) ≤ (runF enStp (enMu ((x, (1 : Int), PUnit.unit), PUnit.unit) + (1 : Nat)) ((x, (1 : Int), PUnit.unit), PUnit.unit)).2.1.2.1 ∧
                        (runF enStp (enMu ((x, (1 : Int), PUnit.unit), PUnit.unit) + (1 : Nat)) ((x, (1 : Int), PUnit.unit), PUnit.unit)).2.1.2.1 <
                          (↑(List.length (runF enStp (enMu ((x, (1 : Int), PUnit.unit), PUnit.unit) + (1 : Nat)) ((x, (1 : Int), PUnit.unit), PUnit.unit)).2.1.1) : Int))
                    (Tree.br
                      (bif
                          decide
                            (letB
                                (↑(UInt8.toNat
                                      (List.getD (runF enStp (enMu ((x, (1 : Int), PUnit.unit), PUnit.unit) + (1 : Nat)) ((x, (1 : Int), PUnit.unit), PUnit.unit)).2.1.1
                                        (Int.toNat (runF enStp (enMu ((x, (1 : Int), PUnit.unit), PUnit.unit) + (1 : Nat)) ((x, (1 : Int), PUnit.unit), PUnit.unit)).2.1.2.1) (0 : UInt8))) :
                                  Int) <
                              (0 : Int)) then
                        (↑(UInt8.toNat
                                (List.getD (runF enStp (enMu ((x, (1 : Int), PUnit.unit), PUnit.unit) + (1 : Nat)) ((x, (1 : Int), PUnit.unit), PUnit.unit)).2.1.1
                                  (Int.toNat (runF enStp (enMu ((x, (1 : Int), PUnit.unit), PUnit.unit) + (1 : Nat)) ((x, (1 : Int), PUnit.unit), PUnit.unit)).2.1.2.1) (0 : UInt8))) :
                            Int) !=
                          (46 : Int)
                      else false)
                      (Tree.leaf ((0 : Int), ((0 : Int), (0 : Int)), [], false))
                      (Tree.need
                        ((0 : Int) ≤ IntKind.wrap IntKind.i64 ((runF enStp (enMu ((x, (1 : Int), PUnit.unit), PUnit.unit) + (1 : Nat)) ((x, (1 : Int), PUnit.unit), PUnit.unit)).2.1.2.1 + (2 : Int)) ∧
                          IntKind.wrap IntKind.i64 ((runF enStp (enMu ((x, (1 : Int), PUnit.unit), PUnit.unit) + (1 : Nat)) ((x, (1 : Int), PUnit.unit), PUnit.unit)).2.1.2.1 + (2 : Int)) ≤
                            (↑(List.length (runF enStp (enMu ((x, (1 : Int), PUnit.unit), PUnit.unit) + (1 : Nat)) ((x, (1 : Int), PUnit.unit), PUnit.unit)).2.1.1) : Int))
                        (Tree.leaf
                          (letB (↑(UInt8.toNat (List.getD x (0 : Nat) (0 : UInt8))) : Int),
                            (IntKind.wrap IntKind.u32
                                (puF
                                    (List.drop (1 : Nat)
                                      (List.take (Int.toNat (runF enStp (enMu ((x, (1 : Int), PUnit.unit), PUnit.unit) + (1 : Nat)) ((x, (1 : Int), PUnit.unit), PUnit.unit)).2.1.2.1)
                                        (runF enStp (enMu ((x, (1 : Int), PUnit.unit), PUnit.unit) + (1 : Nat)) ((x, (1 : Int), PUnit.unit), PUnit.unit)).2.1.1))).1,
                              letB
                                (↑(UInt8.toNat
                                      (List.getD (runF enStp (enMu ((x, (1 : Int), PUnit.unit), PUnit.unit) + (1 : Nat)) ((x, (1 : Int), PUnit.unit), PUnit.unit)).2.1.1
                                        (Int.toNat (runF enStp (enMu ((x, (1 : Int), PUnit.unit), PUnit.unit) + (1 : Nat)) ((x, (1 : Int), PUnit.unit), PUnit.unit)).2.1.2.1) (0 : UInt8))) :
                                  Int)),
                            List.drop
                              (Int.toNat
                                (IntKind.wrap IntKind.i64 ((runF enStp (enMu ((x, (1 : Int), PUnit.unit), PUnit.unit) + (1 : Nat)) ((x, (1 : Int), PUnit.unit), PUnit.unit)).2.1.2.1 + (2 : Int))))
                              (runF enStp (enMu ((x, (1 : Int), PUnit.unit), PUnit.unit) + (1 : Nat)) ((x, (1 : Int), PUnit.unit), PUnit.unit)).2.1.1,
                            true)))))))))))) := by kernel_rfl
theorem en_loop : LoopOK (mkC tys tentG [(0, enD.spec)]) enD.spec (loopB 0 (bodyOf (fnOf Tryd.prog 128))) :=
  loopF1_ok (id := 0) (D := enD) (fun x => congrFun en_round x) enStp enMu (fun _ => rfl) enStp_ends fun (x : (List UInt8 × Int × Unit) × Unit) hp => by
    refine ⟨?_, fun hn => en_go hp hn⟩
    obtain ⟨⟨s, i, ⟨⟩⟩, ⟨⟩⟩ := x
    obtain ⟨h1, h2, h3⟩ := hp
    simp only at h1 h2 h3
    have e : IntKind.wrap IntKind.i64 (i + 1) = i + 1 := i64_id (by omega) (by omega)
    simp only [Tree.holds, enStp]
    rw [e]
    by_cases hlt : i < (s.length : Int)
    · rw [decide_eq_true hlt]
      have eb : (bif (bif true then decide (((UInt8.toNat (s.getD i.toNat 0) : Nat) : Int) ≥ 48) else false) then decide (((UInt8.toNat (s.getD i.toNat 0) : Nat) : Int) ≤ 57) else false) = isDg ((byteAt s i.toNat : Nat) : Int) := rfl
      rw [eb]
      refine ⟨fun _ => ⟨h1, hlt⟩, fun _ => ⟨h1, hlt⟩, fun h => ?_, fun h => ?_⟩
      · simp only [cond_true, h]; rfl
      · simp only [cond_true, h, cond_false]; rfl
    · rw [decide_eq_false hlt]
      exact ⟨fun h => (by cases h), fun h => (by cases h), fun h => (by cases h), fun _ => rfl⟩
theorem tent_ok : CtrOK Tryd.prog 128 tentC :=
  fun_ok (G := tentG) (Λ := [(0, enD.spec)]) tysOK tentG_ok mixed (by kernel_rfl) (by kernel_rfl) (by kernel_rfl) (by kernel_rfl) (lp_cons en_loop lp_nil) fun (x : List UInt8) hw hp => by
    have hlen : 1 ≤ x.length ∧ x.length ≤ 1000 := hp (fun (x : List UInt8) => 1 ≤ x.length ∧ x.length ≤ 1000) rfl
    show (evFn (mkC tys tentG [(0, enD.spec)]) (fnOf Tryd.prog 128) (resL [.str] x) tentC.res).holds (fun y => y = entF x)
    rw [congrFun tent_tree x]
    have key := en_all hlen.1
    generalize runF enStp (enMu ((x, (1 : Int), PUnit.unit), PUnit.unit) + (1 : Nat)) ((x, (1 : Int), PUnit.unit), PUnit.unit) = r at key ⊢
    subst key
    have hi := endN_in hlen.1
    have e1 : IntKind.wrap IntKind.i64 ((endN x : Int) + 1) = ((endN x + 1 : Nat) : Int) := (i64_id (by omega) (by omega)).trans (by omega)
    have e2 : IntKind.wrap IntKind.i64 ((endN x : Int) + 2) = ((endN x + 2 : Nat) : Int) := (i64_id (by omega) (by omega)).trans (by omega)
    have hpu := puF_in ((x.take (endN x)).drop 1)
    have e3 : IntKind.wrap IntKind.u32 (puF ((x.take (endN x)).drop 1)).1 = (puF ((x.take (endN x)).drop 1)).1 := u32_id (by omega) (by omega)
    simp only [Tree.holds]
    rw [e1, e2]
    simp only [Int.toNat_natCast]
    rw [e3]
    have ed : decide ((x.length : Int) < ((endN x + 2 : Nat) : Int)) = decide ((x.length : Int) < (endN x : Int) + 2) := by congr 1
    rw [ed]
    have eB : (bif bif bif decide (letB ((UInt8.toNat (x.getD 0 0) : Nat) : Int) < 0) then true else (puF ((x.take (endN x)).drop 1)).2 then true else decide ((x.length : Int) < (endN x : Int) + 2) then true else ((UInt8.toNat (x.getD (endN x + 1) 0) : Nat) : Int) != 32) = entBad x := rfl
    rw [eB]
    refine ⟨⟨Int.le_refl _, by omega⟩, ⟨(by decide : (0 : Int) ≤ 1), (show (1 : Int) ≤ (x.length : Int) by omega), hlen.2⟩, ⟨by omega, by omega, by omega⟩, ⟨?_, rfl, rfl⟩, ?_, ?_⟩
    · show ((x.take (endN x)).drop 1).length ≤ 1000
      rw [List.length_drop, List.length_take]; omega
    · intro h
      by_cases hl : (x.length : Int) < (endN x : Int) + 2
      · rw [decide_eq_true hl] at h
        cases hb : (bif decide (letB ((UInt8.toNat (x.getD 0 0) : Nat) : Int) < 0) then true else (puF ((x.take (endN x)).drop 1)).2) <;> rw [hb] at h <;> cases h
      · omega
    refine ⟨fun h => ?_, fun h => ?_⟩
    · unfold entF; rw [h]; rfl
    · have hs : ¬ (x.length : Int) < (endN x : Int) + 2 := fun hl => by
        unfold entBad at h
        rw [decide_eq_true hl] at h
        cases hb : (bif decide (letB (byteAt x 0 : Nat) < 0) then true else (puF ((x.take (endN x)).drop 1)).2) <;> rw [hb] at h <;> cases h
      have eB2 : (bif decide (letB ((UInt8.toNat (x.getD (endN x) 0) : Nat) : Int) < 0) then ((UInt8.toNat (x.getD (endN x) 0) : Nat) : Int) != 46 else false) = entBad2 x := rfl
      rw [eB2]
      refine ⟨⟨by omega, by omega⟩, fun _ => ⟨by omega, by omega⟩, fun h2 => ?_, fun h2 => ⟨⟨by omega, by omega⟩, ?_⟩⟩
      · unfold entF; rw [h, h2]; rfl
      · unfold entF; rw [h, h2]; rfl
end Go.Ev.D
/- Trees read: whole texts. -/
set_option linter.unusedVariables false
set_option linter.unusedSimpArgs false
namespace Go.Ev.D
open Go.Proofs
def tparD : LoopD where
  prom := []
  ts := [(3, .val (.int .i64)), (5, .val .str), (2, .ptr 2 gTree), (4, .ptr 4 gTree)]
  bs := [(2, .var gTree), (4, .var gTree)]
  pre := fun (x : TpS) => tpPre x
  out := fun (x : TpS) => out2 0 (runF tpStp (tpMu x + 1) x)
def tparG : List (Nat × Ctr) := [(28, tnewC), (128, tentC), (38, ttextC)]
theorem tpar_round : (fun x : TpS => roundOf (mkC tys tparG [(0, tparD.spec)]) tparD (loopB 0 (bodyOf (fnOf Tryd.prog 66))) x) =
  (fun x =>
    Tree.br (!x.1.2.1 == [])
      (Tree.need ((1 : Nat) ≤ List.length x.1.2.1 ∧ List.length x.1.2.1 ≤ (1000 : Nat))
        (Tree.br (!(entF x.1.2.1).2.2.2) (Tree.leaf (Ex.ret, some (((3 : Int), x.1.2.1, ()), List.replicate (16 : Nat) ((0 : Int), (0 : Int)), x.2.2.1, ())))
          (Tree.need ((0 : Int) ≤ (entF x.1.2.1).1 ∧ (entF x.1.2.1).1 < (16 : Int))
            (Tree.leaf (Ex.normal, some ((x.1.1, (entF x.1.2.1).2.2.1, ()), x.2.1, List.set x.2.2.1 (Int.toNat (entF x.1.2.1).1) (entF x.1.2.1).2.1, ()))))))
      (Tree.leaf (Ex.exit (0 : Nat), some ((x.1.1, x.1.2.1, ()), x.2.1, x.2.2.1, ())))) := by kernel_rfl
noncomputable def tparC : Ctr := { args := [.str], res := [gTree, .int .i64], pre := some (fun (x : List UInt8) => x.length ≤ 1000), fn := tparseF }
theorem tpar_tree : (fun x : List UInt8 => evFn (mkC tys tparG [(0, tparD.spec)]) (fnOf Tryd.prog 66) (resL [.str] x) tparC.res) =
  (fun x =>
    Tree.br (decide ((↑(List.length x) : Int) > (300 : Int))) (Tree.leaf (List.replicate (16 : Nat) ((0 : Int), (0 : Int)), (4 : Int)))
      (Tree.need (tpPre (((0 : Int), x, PUnit.unit), List.replicate (16 : Nat) ((0 : Int), (0 : Int)), newT (-1 : Int), PUnit.unit))
        (Tree.br
          (isRet
            (runF tpStp (tpMu (((0 : Int), x, PUnit.unit), List.replicate (16 : Nat) ((0 : Int), (0 : Int)), newT (-1 : Int), PUnit.unit) + (1 : Nat))
                (((0 : Int), x, PUnit.unit), List.replicate (16 : Nat) ((0 : Int), (0 : Int)), newT (-1 : Int), PUnit.unit)).1)
          (Tree.leaf
            ((runF tpStp (tpMu (((0 : Int), x, PUnit.unit), List.replicate (16 : Nat) ((0 : Int), (0 : Int)), newT (-1 : Int), PUnit.unit) + (1 : Nat))
                      (((0 : Int), x, PUnit.unit), List.replicate (16 : Nat) ((0 : Int), (0 : Int)), newT (-1 : Int), PUnit.unit)).2.2.1,
              (runF tpStp (tpMu (((0 : Int), x, PUnit.unit), List.replicate (16 : Nat) ((0 : Int), (0 : Int)), newT (-1 : Int), PUnit.unit) + (1 : Nat))
                      (((0 : Int), x, PUnit.unit), List.replicate (16 : Nat) ((0 : Int), (0 : Int)), newT (-1 : Int), PUnit.unit)).2.1.1))
          (Tree.br
            (!treeB
                  (runF tpStp (tpMu (((0 : Int), x, PUnit.unit), List.replicate (16 : Nat) ((0 : Int), (0 : Int)), newT (-1 : Int), PUnit.unit) + (1 : Nat))
                            (((0 : Int), x, PUnit.unit), List.replicate (16 : Nat) ((0 : Int), (0 : Int)), newT (-1 : Int), PUnit.unit)).2.2.2.1 ==
                x)
            (Tree.leaf (List.replicate (16 : Nat) ((0 : Int), (0 : Int)), (3 : Int)))
            (Tree.leaf
              ((runF tpStp (tpMu (((0 : Int), x, PUnit.unit), List.replicate (16 : Nat) ((0 : Int), (0 : Int)), newT (-1 : Int), PUnit.unit) + (1 : Nat))
                          (((0 : Int), x, PUnit.unit), List.replicate (16 : Nat) ((0 : Int), (0 : Int)), newT (-1 : Int), PUnit.unit)).2.2.2.1,
                (0 : Int))))))) := by kernel_rfl
def rtparD : LoopD where
  prom := []
  ts := [(0, .val .str), (3, .val (.int .i64)), (5, .val (.int .i64)), (6, .val (.int .u64)), (7, .val (.int .i64)), (17, .val (.int .i64)), (18, .val (.int .i64)), (2, .ptr 2 gTree), (4, .ptr 4 gTree)]
  bs := [(2, .var gTree), (4, .var gTree)]
  pre := fun (x : RtS) => rtPre x
  out := fun (x : RtS) => out2 0 (runF rtStp (rtMu x + 1) x)
def rtparG : List (Nat × Ctr) := [(29, tnewC), (33, tputC), (39, ttextC)]
theorem rtpar_round : (fun x : RtS => roundOf (mkC tys rtparG [(0, rtparD.spec)]) rtparD (loopB 0 (bodyOf (fnOf Tryd.prog 67))) x) =
  (fun x =>
    Tree.br (decide (x.1.2.2.2.2.2.2.1 < x.1.2.2.2.2.2.1))
      (Tree.need ((0 : Int) ≤ x.1.2.2.2.2.2.2.1 ∧ x.1.2.2.2.2.2.2.1 < (↑(List.length x.1.1) : Int))
        (Tree.br
          (bif bif x.1.2.2.2.2.1 == (0 : Int) then decide ((↑(UInt8.toNat (List.getD x.1.1 (Int.toNat x.1.2.2.2.2.2.2.1) (0 : UInt8))) : Int) ≥ (97 : Int)) else false then
            decide ((↑(UInt8.toNat (List.getD x.1.1 (Int.toNat x.1.2.2.2.2.2.2.1) (0 : UInt8))) : Int) ≤ (112 : Int))
          else false)
          (Tree.leaf
            (Ex.normal,
              some
                ((x.1.1, x.1.2.1, IntKind.wrap IntKind.i64 (IntKind.wrap IntKind.u8 ((↑(UInt8.toNat (List.getD x.1.1 (Int.toNat x.1.2.2.2.2.2.2.1) (0 : UInt8))) : Int) - (97 : Int))), (0 : Int),
                    (1 : Int), x.1.2.2.2.2.2.1, IntKind.wrap IntKind.i64 (x.1.2.2.2.2.2.2.1 + (1 : Int)), ()),
                  x.2.1, x.2.2.1, ())))
          (Tree.br
            (bif
                bif
                    bif bif decide (x.1.2.2.2.2.1 > (0 : Int)) then decide (x.1.2.2.2.2.1 < (3 : Int)) else false then
                      decide ((↑(UInt8.toNat (List.getD x.1.1 (Int.toNat x.1.2.2.2.2.2.2.1) (0 : UInt8))) : Int) ≥ (48 : Int))
                    else false then
                  decide ((↑(UInt8.toNat (List.getD x.1.1 (Int.toNat x.1.2.2.2.2.2.2.1) (0 : UInt8))) : Int) ≤ (57 : Int))
                else false then
              decide (x.1.2.2.2.1 < (4294967296 : Int))
            else false)
            (Tree.leaf
              (Ex.normal,
                some
                  ((x.1.1, x.1.2.1, x.1.2.2.1,
                      IntKind.wrap IntKind.u64
                        (IntKind.wrap IntKind.u64 ((10 : Int) * x.1.2.2.2.1) +
                          IntKind.wrap IntKind.u64 (IntKind.wrap IntKind.u8 ((↑(UInt8.toNat (List.getD x.1.1 (Int.toNat x.1.2.2.2.2.2.2.1) (0 : UInt8))) : Int) - (48 : Int)))),
                      (2 : Int), x.1.2.2.2.2.2.1, IntKind.wrap IntKind.i64 (x.1.2.2.2.2.2.2.1 + (1 : Int)), ()),
                    x.2.1, x.2.2.1, ())))
            (Tree.br
              (bif
                  bif x.1.2.2.2.2.1 == (2 : Int) then
                    bif (↑(UInt8.toNat (List.getD x.1.1 (Int.toNat x.1.2.2.2.2.2.2.1) (0 : UInt8))) : Int) == (46 : Int) then true
                    else
                      bif decide ((↑(UInt8.toNat (List.getD x.1.1 (Int.toNat x.1.2.2.2.2.2.2.1) (0 : UInt8))) : Int) ≥ (97 : Int)) then
                        decide ((↑(UInt8.toNat (List.getD x.1.1 (Int.toNat x.1.2.2.2.2.2.2.1) (0 : UInt8))) : Int) ≤ (112 : Int))
                      else false
                  else false then
                decide (x.1.2.2.2.1 < (4294967295 : Int))
              else false)
              (Tree.leaf
                (Ex.normal,
                  some
                    ((x.1.1, x.1.2.1, x.1.2.2.1, x.1.2.2.2.1, (3 : Int), x.1.2.2.2.2.2.1, IntKind.wrap IntKind.i64 (x.1.2.2.2.2.2.2.1 + (1 : Int)), ()), x.2.1,
                      putT x.2.2.1 x.1.2.2.1
                        (bif (↑(UInt8.toNat (List.getD x.1.1 (Int.toNat x.1.2.2.2.2.2.2.1) (0 : UInt8))) : Int) != (46 : Int) then
                          (IntKind.wrap IntKind.u32 x.1.2.2.2.1,
                            IntKind.wrap IntKind.i64 (IntKind.wrap IntKind.u8 ((↑(UInt8.toNat (List.getD x.1.1 (Int.toNat x.1.2.2.2.2.2.2.1) (0 : UInt8))) : Int) - (97 : Int))))
                        else (IntKind.wrap IntKind.u32 x.1.2.2.2.1, (-1 : Int))),
                      ())))
              (Tree.br (bif x.1.2.2.2.2.1 == (3 : Int) then (↑(UInt8.toNat (List.getD x.1.1 (Int.toNat x.1.2.2.2.2.2.2.1) (0 : UInt8))) : Int) == (32 : Int) else false)
                (Tree.leaf (Ex.normal, some ((x.1.1, x.1.2.1, x.1.2.2.1, x.1.2.2.2.1, (0 : Int), x.1.2.2.2.2.2.1, IntKind.wrap IntKind.i64 (x.1.2.2.2.2.2.2.1 + (1 : Int)), ()), x.2.1, x.2.2.1, ())))
                (Tree.leaf
                  (Ex.ret, some ((x.1.1, (3 : Int), x.1.2.2.1, x.1.2.2.2.1, x.1.2.2.2.2.1, x.1.2.2.2.2.2.1, x.1.2.2.2.2.2.2.1, ()), List.replicate (16 : Nat) ((0 : Int), (0 : Int)), x.2.2.1, ()))))))))
      (Tree.leaf (Ex.exit (0 : Nat), some ((x.1.1, x.1.2.1, x.1.2.2.1, x.1.2.2.2.1, x.1.2.2.2.2.1, x.1.2.2.2.2.2.1, x.1.2.2.2.2.2.2.1, ()), x.2.1, x.2.2.1, ())))) := by kernel_rfl
theorem rtpar_tree : (fun x : List UInt8 => evFn (mkC tys rtparG [(0, rtparD.spec)]) (fnOf Tryd.prog 67) (resL [.str] x) tparC.res) =
  (fun x =>
    Tree.br (decide ((↑(List.length x) : Int) > (300 : Int))) (Tree.leaf (List.replicate (16 : Nat) ((0 : Int), (0 : Int)), (4 : Int)))
      (Tree.need (rtPre ((x, (0 : Int), (0 : Int), (0 : Int), (0 : Int), (↑(List.length x) : Int), (0 : Int), PUnit.unit), List.replicate (16 : Nat) ((0 : Int), (0 : Int)), newT (-1 : Int), PUnit.unit))
        (Tree.br
          (isRet
            (runF rtStp
                (rtMu ((x, (0 : Int), (0 : Int), (0 : Int), (0 : Int), (↑(List.length x) : Int), (0 : Int), PUnit.unit), List.replicate (16 : Nat) ((0 : Int), (0 : Int)), newT (-1 : Int), PUnit.unit) +
                  (1 : Nat))
                ((x, (0 : Int), (0 : Int), (0 : Int), (0 : Int), (↑(List.length x) : Int), (0 : Int), PUnit.unit), List.replicate (16 : Nat) ((0 : Int), (0 : Int)), newT (-1 : Int), PUnit.unit)).1)
          (Tree.leaf
            ((runF rtStp
                      (rtMu
                          ((x, (0 : Int), (0 : Int), (0 : Int), (0 : Int), (↑(List.length x) : Int), (0 : Int), PUnit.unit), List.replicate (16 : Nat) ((0 : Int), (0 : Int)), newT (-1 : Int),
                            PUnit.unit) +
                        (1 : Nat))
                      ((x, (0 : Int), (0 : Int), (0 : Int), (0 : Int), (↑(List.length x) : Int), (0 : Int), PUnit.unit), List.replicate (16 : Nat) ((0 : Int), (0 : Int)), newT (-1 : Int),
                        PUnit.unit)).2.2.1,
              (runF rtStp
                        (rtMu
                            ((x, (0 : Int), (0 : Int), (0 : Int), (0 : Int), (↑(List.length x) : Int), (0 : Int), PUnit.unit), List.replicate (16 : Nat) ((0 : Int), (0 : Int)), newT (-1 : Int),
                              PUnit.unit) +
                          (1 : Nat))
                        ((x, (0 : Int), (0 : Int), (0 : Int), (0 : Int), (↑(List.length x) : Int), (0 : Int), PUnit.unit), List.replicate (16 : Nat) ((0 : Int), (0 : Int)), newT (-1 : Int),
                          PUnit.unit)).2.1.2.1))
          (Tree.br
            (!treeB
                  (runF rtStp
                            (rtMu
                                ((x, (0 : Int), (0 : Int), (0 : Int), (0 : Int), (↑(List.length x) : Int), (0 : Int), PUnit.unit), List.replicate (16 : Nat) ((0 : Int), (0 : Int)), newT (-1 : Int),
                                  PUnit.unit) +
                              (1 : Nat))
                            ((x, (0 : Int), (0 : Int), (0 : Int), (0 : Int), (↑(List.length x) : Int), (0 : Int), PUnit.unit), List.replicate (16 : Nat) ((0 : Int), (0 : Int)), newT (-1 : Int),
                              PUnit.unit)).2.2.2.1 ==
                (runF rtStp
                        (rtMu
                            ((x, (0 : Int), (0 : Int), (0 : Int), (0 : Int), (↑(List.length x) : Int), (0 : Int), PUnit.unit), List.replicate (16 : Nat) ((0 : Int), (0 : Int)), newT (-1 : Int),
                              PUnit.unit) +
                          (1 : Nat))
                        ((x, (0 : Int), (0 : Int), (0 : Int), (0 : Int), (↑(List.length x) : Int), (0 : Int), PUnit.unit), List.replicate (16 : Nat) ((0 : Int), (0 : Int)), newT (-1 : Int),
                          PUnit.unit)).2.1.1)
            (Tree.leaf (List.replicate (16 : Nat) ((0 : Int), (0 : Int)), (3 : Int)))
            (Tree.leaf
              ((runF rtStp
                          (rtMu
                              ((x, (0 : Int), (0 : Int), (0 : Int), (0 : Int), (↑(List.length x) : Int), (0 : Int), PUnit.unit), List.replicate (16 : Nat) ((0 : Int), (0 : Int)), newT (-1 : Int),
                                PUnit.unit) +
                            (1 : Nat))
                          ((x, (0 : Int), (0 : Int), (0 : Int), (0 : Int), (↑(List.length x) : Int), (0 : Int), PUnit.unit), List.replicate (16 : Nat) ((0 : Int), (0 : Int)), newT (-1 : Int),
                            PUnit.unit)).2.2.2.1,
                (0 : Int))))))) := by kernel_rfl
theorem tpar_loop : LoopOK (mkC tys tparG [(0, tparD.spec)]) tparD.spec (loopB 0 (bodyOf (fnOf Tryd.prog 66))) :=
  loopF2_ok (id := 0) (D := tparD) (fun x => congrFun tpar_round x) tpStp tpMu (fun _ => rfl) tpStp_ends fun (x : TpS) hp => by
    refine ⟨?_, fun hn => tp_go hp hn⟩
    obtain ⟨⟨e, r, ⟨⟩⟩, t2, t4, ⟨⟩⟩ := x
    have hp' : r.length ≤ 1000 := hp
    simp only [Tree.holds, tpStp]
    refine ⟨fun h => ⟨⟨?_, hp'⟩, fun h2 => ?_, fun h2 => ⟨?_, ?_⟩⟩, fun h => ?_⟩
    · cases r with
      | nil => cases h
      | cons a r => simp
    · rw [h, h2]; rfl
    · have hk : (entF r).2.2.2 = true := by cases hb : (entF r).2.2.2 <;> rw [hb] at h2 <;> first | rfl | cases h2
      have := ent_good hk
      exact ⟨this.1, this.2.1⟩
    · rw [h, h2]; rfl
    · rw [h]; rfl
theorem tpar_ok : CtrOK Tryd.prog 66 tparC :=
  fun_ok (G := tparG) (Λ := [(0, tparD.spec)]) tysOK (ctrs_cons tnew_ok (ctrs_cons tent_ok (ctrs_cons ttext_ok ctrs_nil))) mixed (by kernel_rfl) (by kernel_rfl) (by kernel_rfl) (by kernel_rfl) (lp_cons tpar_loop lp_nil) fun (x : List UInt8) hw hp => by
    have hlen : x.length ≤ 1000 := hp (fun (x : List UInt8) => x.length ≤ 1000) rfl
    show (evFn (mkC tys tparG [(0, tparD.spec)]) (fnOf Tryd.prog 66) (resL [.str] x) tparC.res).holds (fun y => y = tparseF x)
    rw [congrFun tpar_tree x]
    show (Tree.br _ _ (Tree.need _ _)).holds _
    rw [Tree.holds]
    refine ⟨fun h => (tparse_long (of_decide_eq_true h)).symm, fun h => ?_⟩
    have hl : ¬ (x.length : Int) > 300 := of_decide_eq_false h
    rw [new_none]
    have key := tp_inv (tpMu (((0 : Int), x, PUnit.unit), zeroT, farT, PUnit.unit) + 1) (((0 : Int), x, PUnit.unit), zeroT, farT, PUnit.unit) good_far (Nat.lt_succ_self _)
    have told : ∀ t, plainT t → treeB t = x → isRet (tpRun x).1 = false ∧ (tpRun x).2.2.2.1 = t := fun t ht e => by
      have := tp_told ht
      rw [e] at this
      exact ⟨by rw [this.1]; rfl, this.2⟩
    have e : tpRun x = runF tpStp (tpMu (((0 : Int), x, PUnit.unit), List.replicate (16 : Nat) ((0 : Int), (0 : Int)), farT, PUnit.unit) + 1) (((0 : Int), x, PUnit.unit), List.replicate (16 : Nat) ((0 : Int), (0 : Int)), farT, PUnit.unit) := rfl
    have e' : tpRun x = runF tpStp (tpMu (((0 : Int), x, PUnit.unit), zeroT, farT, PUnit.unit) + 1) (((0 : Int), x, PUnit.unit), zeroT, farT, PUnit.unit) := rfl
    rw [← e'] at key
    rw [← e]
    generalize tpRun x = r at key told
    have w := t_whole hl told key.1 key.2
    simp only [Tree.holds]
    exact ⟨hlen, fun h1 => w.1 h1, fun h1 => ⟨fun h2 => (w.2 h1).1 h2, fun h2 => (w.2 h1).2 h2⟩⟩
theorem rt_same : ∀ (n : Nat) (x : RtS), rtMu x < n → (runF rtStp n x).2.1.1 = x.1.1 := fun n x hn =>
  runF_inv (stp := rtStp) (J := fun y => y.1.1 = x.1.1) (Post := fun p => p.2.1.1 = x.1.1) (μ := rtMu) (fun y hy => by
    obtain ⟨⟨s, e, j, n, st, len, i, ⟨⟩⟩, t2, t4, ⟨⟩⟩ := y
    have hy' : s = x.1.1 := hy
    unfold rtStp
    simp only
    cases hl : decide (i < len) with
    | false => exact ⟨nofun, fun _ => hy'⟩
    | true =>
      have hlt := of_decide_eq_true hl
      have hmu : (len - (i + 1)).toNat < (len - i).toNat := by omega
      simp only [cond_true]
      cases cA st (byteAt s i.toNat : Nat) <;> cases cB st (byteAt s i.toNat : Nat) n <;> cases cC st (byteAt s i.toNat : Nat) n <;> cases cD st (byteAt s i.toNat : Nat) <;> first | exact ⟨fun _ => ⟨hy', hmu⟩, fun h => absurd rfl h⟩ | exact ⟨nofun, fun _ => hy'⟩) n x rfl hn
theorem rtpar_loop : LoopOK (mkC tys rtparG [(0, rtparD.spec)]) rtparD.spec (loopB 0 (bodyOf (fnOf Tryd.prog 67))) :=
  loopF2_ok (id := 0) (D := rtparD) (fun x => congrFun rtpar_round x) rtStp rtMu (fun _ => rfl) rtStp_ends fun (x : RtS) hp => by
    refine ⟨?_, fun hn => rt_go hp hn⟩
    obtain ⟨⟨s, e, j, n, st, len, i, ⟨⟩⟩, t2, t4, ⟨⟩⟩ := x
    obtain ⟨h1, h2, h3, h4, h5, h6⟩ := hp
    simp only at h1 h2 h3 h4 h5 h6
    subst h1
    have hb := byteAt_lt s i.toNat
    have ei : IntKind.wrap IntKind.i64 (i + 1) = i + 1 := i64_id (by omega) (by omega)
    simp only [Tree.holds, rtStp]
    rw [ei]
    refine ⟨fun hl => ?_, fun hl => ?_⟩
    · rw [hl]
      have hlt := of_decide_eq_true hl
      refine ⟨⟨h3, hlt⟩, fun hA => ?_, fun hA => ⟨fun hB => ?_, fun hB => ⟨fun hC => ?_, fun hC => ⟨fun hD => ?_, fun hD => ?_⟩⟩⟩⟩
      · have hA' : cA st (byteAt s i.toNat : Nat) = true := hA
        rw [hA']
        have hc : 97 ≤ ((byteAt s i.toNat : Nat) : Int) := by
          by_cases hc : ((byteAt s i.toNat : Nat) : Int) ≥ 97
          · exact hc
          · unfold cA at hA'
            rw [decide_eq_false hc] at hA'
            cases hs : st == (0 : Int) <;> rw [hs] at hA' <;> cases hA'
        have ew : IntKind.wrap IntKind.i64 (IntKind.wrap IntKind.u8 (((byteAt s i.toNat : Nat) : Int) - 97)) = ((byteAt s i.toNat : Nat) : Int) - 97 := by
          rw [show IntKind.wrap IntKind.u8 (((byteAt s i.toNat : Nat) : Int) - 97) = ((byteAt s i.toNat : Nat) : Int) - 97 from u8_id (by omega) (by omega)]
          exact i64_id (by omega) (by omega)
        show (Ex.normal, some ((s, e, IntKind.wrap IntKind.i64 (IntKind.wrap IntKind.u8 (((byteAt s i.toNat : Nat) : Int) - 97)), 0, 1, (s.length : Int), i + 1, ()), t2, t4, ())) = _
        rw [ew]; rfl
      · have hA' : cA st (byteAt s i.toNat : Nat) = false := hA
        have hB' : cB st (byteAt s i.toNat : Nat) n = true := hB
        rw [hA', hB']
        have hin := cB_in hB'
        have ew : IntKind.wrap IntKind.u64 (IntKind.wrap IntKind.u64 (10 * n) + IntKind.wrap IntKind.u64 (IntKind.wrap IntKind.u8 (((byteAt s i.toNat : Nat) : Int) - 48))) = n * 10 + (((byteAt s i.toNat : Nat) : Int) - 48) := by
          rw [show IntKind.wrap IntKind.u8 (((byteAt s i.toNat : Nat) : Int) - 48) = ((byteAt s i.toNat : Nat) : Int) - 48 from u8_id (by omega) (by omega), show IntKind.wrap IntKind.u64 (((byteAt s i.toNat : Nat) : Int) - 48) = ((byteAt s i.toNat : Nat) : Int) - 48 from u64_id (by omega) (by omega), show IntKind.wrap IntKind.u64 (10 * n) = 10 * n from u64_id (by omega) (by omega), show IntKind.wrap IntKind.u64 (10 * n + (((byteAt s i.toNat : Nat) : Int) - 48)) = 10 * n + (((byteAt s i.toNat : Nat) : Int) - 48) from u64_id (by omega) (by omega)]
          omega
        show (Ex.normal, some ((s, e, j, IntKind.wrap IntKind.u64 (IntKind.wrap IntKind.u64 (10 * n) + IntKind.wrap IntKind.u64 (IntKind.wrap IntKind.u8 (((byteAt s i.toNat : Nat) : Int) - 48))), 2, (s.length : Int), i + 1, ()), t2, t4, ())) = _
        rw [ew]; rfl
      · have hA' : cA st (byteAt s i.toNat : Nat) = false := hA
        have hB' : cB st (byteAt s i.toNat : Nat) n = false := hB
        have hC' : cC st (byteAt s i.toNat : Nat) n = true := hC
        rw [hA', hB', hC']
        have hin := cC_in hC'
        have eu : IntKind.wrap IntKind.u32 n = n := u32_id (by omega) (by omega)
        have ew : (bif ((byteAt s i.toNat : Nat) : Int) != (46 : Int) then (IntKind.wrap IntKind.u32 n, IntKind.wrap IntKind.i64 (IntKind.wrap IntKind.u8 (((byteAt s i.toNat : Nat) : Int) - 97))) else (IntKind.wrap IntKind.u32 n, (-1 : Int))) = (n, bif ((byteAt s i.toNat : Nat) : Int) != (46 : Int) then ((byteAt s i.toNat : Nat) : Int) - 97 else -1) := by
          rw [eu]
          rcases hin.2 with h46 | ⟨h97, h112⟩
          · have : (((byteAt s i.toNat : Nat) : Int) != (46 : Int)) = false := by simpa using h46
            rw [this]; rfl
          · rw [show IntKind.wrap IntKind.u8 (((byteAt s i.toNat : Nat) : Int) - 97) = ((byteAt s i.toNat : Nat) : Int) - 97 from u8_id (by omega) (by omega), show IntKind.wrap IntKind.i64 (((byteAt s i.toNat : Nat) : Int) - 97) = ((byteAt s i.toNat : Nat) : Int) - 97 from i64_id (by omega) (by omega)]
            cases (((byteAt s i.toNat : Nat) : Int) != (46 : Int)) <;> rfl
        show (Ex.normal, some ((s, e, j, n, 3, (s.length : Int), i + 1, ()), t2, putT t4 j (bif ((byteAt s i.toNat : Nat) : Int) != (46 : Int) then (IntKind.wrap IntKind.u32 n, IntKind.wrap IntKind.i64 (IntKind.wrap IntKind.u8 (((byteAt s i.toNat : Nat) : Int) - 97))) else (IntKind.wrap IntKind.u32 n, (-1 : Int))), ())) = _
        rw [ew]; rfl
      · have hA' : cA st (byteAt s i.toNat : Nat) = false := hA
        have hB' : cB st (byteAt s i.toNat : Nat) n = false := hB
        have hC' : cC st (byteAt s i.toNat : Nat) n = false := hC
        have hD' : cD st (byteAt s i.toNat : Nat) = true := hD
        rw [hA', hB', hC', hD']; rfl
      · have hA' : cA st (byteAt s i.toNat : Nat) = false := hA
        have hB' : cB st (byteAt s i.toNat : Nat) n = false := hB
        have hC' : cC st (byteAt s i.toNat : Nat) n = false := hC
        have hD' : cD st (byteAt s i.toNat : Nat) = false := hD
        rw [hA', hB', hC', hD']; rfl
    · rw [hl]; rfl
theorem rtpar_ok : CtrOK Tryd.prog 67 tparC :=
  fun_ok (G := rtparG) (Λ := [(0, rtparD.spec)]) tysOK (ctrs_cons rtnew_ok (ctrs_cons rtput_ok (ctrs_cons rttext_ok ctrs_nil))) mixed (by kernel_rfl) (by kernel_rfl) (by kernel_rfl) (by kernel_rfl) (lp_cons rtpar_loop lp_nil) fun (x : List UInt8) hw hp => by
    have hlen : x.length ≤ 1000 := hp (fun (x : List UInt8) => x.length ≤ 1000) rfl
    show (evFn (mkC tys rtparG [(0, rtparD.spec)]) (fnOf Tryd.prog 67) (resL [.str] x) tparC.res).holds (fun y => y = tparseF x)
    rw [congrFun rtpar_tree x]
    show (Tree.br _ _ (Tree.need _ _)).holds _
    rw [Tree.holds]
    refine ⟨fun h => (tparse_long (of_decide_eq_true h)).symm, fun h => ?_⟩
    have hl : ¬ (x.length : Int) > 300 := of_decide_eq_false h
    rw [new_none]
    have key := rt_inv (rtMu (rtSt x 0 0 0 0 0 zeroT farT) + 1) (rtSt x 0 0 0 0 0 zeroT farT) ⟨good_far, Int.le_refl _⟩ (Nat.lt_succ_self _)
    have same := rt_same (rtMu (rtSt x 0 0 0 0 0 zeroT farT) + 1) (rtSt x 0 0 0 0 0 zeroT farT) (Nat.lt_succ_self _)
    have told : ∀ t, plainT t → treeB t = x → isRet (rtRun (rtSt x 0 0 0 0 0 zeroT farT)).1 = false ∧ (rtRun (rtSt x 0 0 0 0 0 zeroT farT)).2.2.2.1 = t := fun t ht e => by
      have := rt_told ht
      rw [e] at this
      exact ⟨by rw [this.1]; rfl, this.2⟩
    have e : rtRun (rtSt x 0 0 0 0 0 zeroT farT) = runF rtStp (rtMu ((x, (0 : Int), (0 : Int), (0 : Int), (0 : Int), (x.length : Int), (0 : Int), PUnit.unit), List.replicate (16 : Nat) ((0 : Int), (0 : Int)), farT, PUnit.unit) + 1) ((x, (0 : Int), (0 : Int), (0 : Int), (0 : Int), (x.length : Int), (0 : Int), PUnit.unit), List.replicate (16 : Nat) ((0 : Int), (0 : Int)), farT, PUnit.unit) := rfl
    have e' : rtRun (rtSt x 0 0 0 0 0 zeroT farT) = runF rtStp (rtMu (rtSt x 0 0 0 0 0 zeroT farT) + 1) (rtSt x 0 0 0 0 0 zeroT farT) := rfl
    rw [← e'] at key same
    rw [← e]
    generalize rtRun (rtSt x 0 0 0 0 0 zeroT farT) = r at key told same
    have w := t_whole hl told key.1 key.2
    have same' : r.2.1.1 = x := same
    simp only [Tree.holds]
    rw [same']
    exact ⟨⟨rfl, hlen, Int.le_refl _, by show (0 : Int) ≤ (x.length : Int); omega, Int.le_refl _, by show (0 : Int) ≤ 42949672969; decide⟩, fun h1 => w.1 h1, fun h1 => ⟨fun h2 => (w.2 h1).1 h2, fun h2 => (w.2 h1).2 h2⟩⟩
end Go.Ev.D
/- What is asked of any tree. -/
set_option linter.unusedVariables false
set_option linter.unusedSimpArgs false
namespace Go.Ev.D
open Go.Proofs
def rtnewC : Ctr := tnewC
def rtgetC : Ctr := tgetC
def rtputC : Ctr := tputC
def rtrootC : Ctr := trootC
def rtreachC : Ctr := treachC
def rttextC : Ctr := ttextC
def awake23C : Ctr := { args := [], res := [.bool], pre := none, fn := fun (x : Unit) => true }
def awake23G : List (Nat × Ctr) := [(28, tnewC), (32, tputC), (34, trootC), (36, treachC), (30, tgetC), (38, ttextC)]
theorem awake23_tree : (fun x : Unit => evFn (mkC tys awake23G [] true) (fnOf Tryd.prog 40) (resL awake23C.args x) awake23C.res) =
  (fun x => Tree.leaf true) := by kernel_rfl
theorem awake23_ok : CtrOK Tryd.prog 40 awake23C :=
  fun_okX true (G := awake23G) (Λ := []) tysOK (ctrs_cons tnew_ok (ctrs_cons tput_ok (ctrs_cons troot_ok (ctrs_cons treach_ok (ctrs_cons tget_ok (ctrs_cons ttext_ok ctrs_nil)))))) mixed (by kernel_rfl) (by kernel_rfl) (by kernel_rfl) (by kernel_rfl) lp_nil fun (x : Unit) hw _ => by
    rw [congrFun awake23_tree x]
    exact holds_val (d := awake23C.fn x) (by kernel_rfl) (by simp [Tree.safe])
def tsaysG : List (Nat × Ctr) := [(28, tnewC), (29, rtnewC), (30, tgetC), (31, rtgetC), (32, tputC), (33, rtputC), (34, trootC), (35, rtrootC), (36, treachC), (37, rtreachC), (38, ttextC), (39, rttextC), (40, awake23C)]
theorem tsaysG_ok : CtrsOK Tryd.prog (fun f => lk f tsaysG) := (ctrs_cons tnew_ok (ctrs_cons rtnew_ok (ctrs_cons tget_ok (ctrs_cons rtget_ok (ctrs_cons tput_ok (ctrs_cons rtput_ok (ctrs_cons troot_ok (ctrs_cons rtroot_ok (ctrs_cons treach_ok (ctrs_cons rtreach_ok (ctrs_cons ttext_ok (ctrs_cons rttext_ok (ctrs_cons awake23_ok ctrs_nil)))))))))))))
def tsaysC : Ctr := { args := [gTree, .int .i64, gEnt], res := [.bool], pre := some (smallD [gTree, .int .i64, gEnt]), fn := fun _ => true }
theorem tsays_tree : (fun x : List DEnt × Int × DEnt => evFn (mkC tys tsaysG []) (fnOf Tryd.prog 5) (resL tsaysC.args x) tsaysC.res) =
  (fun x =>
    Tree.leaf
      (bif
          bif
              bif
                  bif
                      bif
                          bif geq (GTy.arr (16 : Nat) (GTy.prod (GTy.int IntKind.u32) (GTy.int IntKind.i64))) (newT x.2.1) (newT x.2.1) then
                            geq (GTy.prod (GTy.int IntKind.u32) (GTy.int IntKind.i64)) (getT x.1 x.2.1) (getT x.1 x.2.1)
                          else false then
                        geq (GTy.arr (16 : Nat) (GTy.prod (GTy.int IntKind.u32) (GTy.int IntKind.i64))) (putT x.1 x.2.1 x.2.2) (putT x.1 x.2.1 x.2.2)
                      else false then
                    rootT x.1 == rootT x.1
                  else false then
                reachT x.1 == reachT x.1
              else false then
            treeB x.1 == treeB x.1
          else false then
        true
      else false)) := by kernel_rfl
theorem tsays_ok : CtrOK Tryd.prog 5 tsaysC :=
  fun_ok (G := tsaysG) (Λ := []) tysOK tsaysG_ok mixed (by kernel_rfl) (by kernel_rfl) (by kernel_rfl) (by kernel_rfl) lp_nil fun (x : List DEnt × Int × DEnt) hw _ => by
    rw [congrFun tsays_tree x]
    simp only [Tree.holds]
    rw [geq_self gTree _ rfl, geq_self gTree _ rfl]
    simp [tsaysC, geq]
def tkeepsG : List (Nat × Ctr) := [(28, tnewC), (32, tputC), (30, tgetC), (34, trootC), (36, treachC), (41, hasC), (40, awake23C)]
theorem tkeepsG_ok : CtrsOK Tryd.prog (fun f => lk f tkeepsG) := (ctrs_cons tnew_ok (ctrs_cons tput_ok (ctrs_cons tget_ok (ctrs_cons troot_ok (ctrs_cons treach_ok (ctrs_cons has_ok (ctrs_cons awake23_ok ctrs_nil)))))))
def tkeepsD : LoopD where
  prom := []
  ts := [(1, .val (.int .i64)), (3, .ptr 3 gTree), (5, .ptr 5 gEnt), (6, .val .bool), (7, .ptr 7 gTree), (19, .val (.int .i64))]
  bs := [(3, .var gTree), (5, .var gEnt), (7, .var gTree)]
  pre := fun (x : (Int × Bool × Int × Unit) × (List DEnt × DEnt × List DEnt × Unit)) => 0 ≤ x.1.1 ∧ x.1.1 < 16 ∧ 0 ≤ x.1.2.2.1 ∧ x.1.2.2.1 ≤ 16 ∧ x.2.1.length = 16 ∧ x.2.2.2.1 = putT x.2.1 x.1.1 x.2.2.1
  out := fun (x : (Int × Bool × Int × Unit) × (List DEnt × DEnt × List DEnt × Unit)) => .leaf (.exit 0, ((x.1.1, x.1.2.1, 16, ()), x.2))
theorem tkeeps_round : (fun x : (Int × Bool × Int × Unit) × (List DEnt × DEnt × List DEnt × Unit) => roundOf (mkC tys tkeepsG [(0, tkeepsD.spec)]) tkeepsD (loopB 0 (bodyOf (fnOf Tryd.prog 6))) x) =
  (fun x =>
    Tree.br (decide (x.1.2.2.1 < (16 : Int)))
      (Tree.br
        (bif !geq (GTy.prod (GTy.int IntKind.u32) (GTy.int IntKind.i64)) (getT x.2.2.2.1 x.1.2.2.1) (bif x.1.2.2.1 == x.1.1 then x.2.2.1 else getT x.2.1 x.1.2.2.1) then true
        else !geq GTy.bool (hasF (reachT x.2.2.2.1) x.1.2.2.1) ((bif x.1.2.2.1 == x.1.1 then x.2.2.1 else getT x.2.1 x.1.2.2.1).1 != (4294967295 : Int)))
        (Tree.leaf (Ex.ret, some ((x.1.1, false, x.1.2.2.1, ()), x.2.1, x.2.2.1, x.2.2.2.1, ())))
        (Tree.leaf (Ex.normal, some ((x.1.1, x.1.2.1, IntKind.wrap IntKind.i64 (x.1.2.2.1 + (1 : Int)), ()), x.2.1, x.2.2.1, x.2.2.2.1, ()))))
      (Tree.leaf (Ex.exit (0 : Nat), some ((x.1.1, x.1.2.1, x.1.2.2.1, ()), x.2.1, x.2.2.1, x.2.2.2.1, ())))) := by kernel_rfl
theorem tkeeps_loop : LoopOK (mkC tys tkeepsG [(0, tkeepsD.spec)]) tkeepsD.spec (loopB 0 (bodyOf (fnOf Tryd.prog 6))) :=
  loopD_ok1 (fun _ => rfl) (fun x => congrFun tkeeps_round x) (fun (x : (Int × Bool × Int × Unit) × (List DEnt × DEnt × List DEnt × Unit)) => (16 - x.1.2.2.1).toNat) fun (x : (Int × Bool × Int × Unit) × (List DEnt × DEnt × List DEnt × Unit)) hp => by
    obtain ⟨⟨j, r, i, ⟨⟩⟩, t, e, u, ⟨⟩⟩ := x
    obtain ⟨h1, h2, h3, h4, h5, h6⟩ := hp
    simp only at h1 h2 h3 h4 h5 h6
    subst h6
    have heq : ∀ i : Int, 0 ≤ i → i < 16 → (getT (putT t j e) i = bif i == j then e else getT t i) ∧ hasF (reachT (putT t j e)) i = ((bif i == j then e else getT t i).1 != (4294967295 : Int)) := fun i g0 g1 => by
      rw [has_reach _ g0 g1, get_at g0 g1, get_at g0 g1, put_get h5 h1 h2 g0 g1]
      exact ⟨rfl, rfl⟩
    simp only [Tree.holds]
    refine ⟨fun h => ?_, fun h => ?_⟩
    · have h' : i < 16 := by simpa using h
      have e1 : IntKind.i64.wrap (i + 1) = i + 1 := i64_id (by omega) (by omega)
      obtain ⟨q1, q2⟩ := heq i h3 h'
      refine ⟨fun h7 => ?_, fun h7 => ⟨_, rfl, ⟨h1, h2, ?_, ?_, h5, rfl⟩, ?_, rfl⟩⟩
      · exfalso
        rw [q1, q2, geq_self gEnt _ rfl, geq_self .bool _ rfl] at h7
        cases h7
      · show 0 ≤ IntKind.i64.wrap (i + 1); omega
      · show IntKind.i64.wrap (i + 1) ≤ 16; omega
      · show (16 - IntKind.i64.wrap (i + 1)).toNat < (16 - i).toNat; omega
    · have h' : ¬ i < 16 := by simpa using h
      have hi : i = 16 := by omega
      subst hi
      exact ⟨_, rfl, rfl⟩
def tkeepsC : Ctr := { args := [gTree, .int .i64, gEnt], res := [.bool], pre := some (smallD [gTree, .int .i64, gEnt]), fn := fun _ => true }
theorem tkeeps_tree : (fun x : List DEnt × Int × DEnt => evFn (mkC tys tkeepsG [(0, tkeepsD.spec)]) (fnOf Tryd.prog 6) (resL tkeepsC.args x) tkeepsC.res) =
  (fun x =>
    Tree.need
      ((0 : Int) ≤ IntKind.wrap IntKind.i64 (Int.tmod (IntKind.wrap IntKind.u64 x.2.1) (16 : Int)) ∧
        IntKind.wrap IntKind.i64 (Int.tmod (IntKind.wrap IntKind.u64 x.2.1) (16 : Int)) < (16 : Int) ∧
          (0 : Int) ≤ (0 : Int) ∧
            (0 : Int) ≤ (16 : Int) ∧
              List.length x.1 = (16 : Nat) ∧
                putT x.1 (IntKind.wrap IntKind.i64 (Int.tmod (IntKind.wrap IntKind.u64 x.2.1) (16 : Int))) x.2.2 =
                  putT x.1 (IntKind.wrap IntKind.i64 (Int.tmod (IntKind.wrap IntKind.u64 x.2.1) (16 : Int))) x.2.2)
      (Tree.need
        (((rootT (newT (IntKind.wrap IntKind.i64 (Int.tmod (IntKind.wrap IntKind.u64 x.2.1) (16 : Int)))) == IntKind.wrap IntKind.i64 (Int.tmod (IntKind.wrap IntKind.u64 x.2.1) (16 : Int))) == true &&
              true) =
            true →
          (0 : Int) ≤ IntKind.wrap IntKind.u64 (IntKind.wrap IntKind.i64 (Int.tmod (IntKind.wrap IntKind.u64 x.2.1) (16 : Int))))
        (Tree.leaf
          (bif
              bif rootT (newT (IntKind.wrap IntKind.i64 (Int.tmod (IntKind.wrap IntKind.u64 x.2.1) (16 : Int)))) == IntKind.wrap IntKind.i64 (Int.tmod (IntKind.wrap IntKind.u64 x.2.1) (16 : Int)) then
                reachT (newT (IntKind.wrap IntKind.i64 (Int.tmod (IntKind.wrap IntKind.u64 x.2.1) (16 : Int)))) ==
                  IntKind.wrap IntKind.i64
                    ((1 : Int) * (2 : Int) ^ min (Int.toNat (IntKind.wrap IntKind.u64 (IntKind.wrap IntKind.i64 (Int.tmod (IntKind.wrap IntKind.u64 x.2.1) (16 : Int))))) (64 : Nat))
              else false then
            true
          else false)))) := by kernel_rfl
theorem tkeeps_ok : CtrOK Tryd.prog 6 tkeepsC :=
  fun_ok (G := tkeepsG) (Λ := [(0, tkeepsD.spec)]) tysOK tkeepsG_ok mixed (by kernel_rfl) (by kernel_rfl) (by kernel_rfl) (by kernel_rfl) (lp_cons tkeeps_loop lp_nil) fun (x : List DEnt × Int × DEnt) hw _ => by
    rw [congrFun tkeeps_tree x]
    have e : tkeepsC.fn x = true := rfl
    have hl : x.1.length = 16 := hw.1.1
    have hm := mod_in x.2.1
    rw [e]
    simp only [Tree.holds]
    generalize IntKind.wrap IntKind.i64 (Int.tmod (IntKind.wrap IntKind.u64 x.2.1) (16 : Int)) = j at hm ⊢
    obtain ⟨q1, q2⟩ := new_root hm.1 hm.2
    refine ⟨⟨hm.1, hm.2, by omega, by omega, hl, trivial⟩, fun _ => ?_, ?_⟩
    · rw [u64_id hm.1 (by omega)]; exact hm.1
    · rw [q1, q2]; simp; rfl
end Go.Ev.D
/- What is asked of trees read. -/
set_option linter.unusedVariables false
set_option linter.unusedSimpArgs false
namespace Go.Ev.D
open Go.Proofs
def tbetC : Ctr := { args := [gTree, gTree], res := [gTree], pre := none, fn := fun (x : List DEnt × List DEnt) => betF x.1 x.2 }
def tbetD : LoopD where
  prom := []
  ts := [(6, .val (.int .i64)), (2, .ptr 2 gTree), (3, .ptr 3 gTree)]
  bs := [(2, .var gTree), (3, .var gTree)]
  pre := fun (x : (Int × Unit) × (List DEnt × List DEnt × Unit)) => 0 ≤ x.1.1 ∧ x.1.1 ≤ 16
  out := fun (x : (Int × Unit) × (List DEnt × List DEnt × Unit)) => .leaf (.exit 0, ((16, ()), (betK x.2.2.1 (16 - x.1.1).toNat x.2.1, x.2.2.1, ())))
theorem tbet_round : (fun x : (Int × Unit) × (List DEnt × List DEnt × Unit) => roundOf (mkC tys [] [(0, tbetD.spec)]) tbetD (loopB 0 (bodyOf (fnOf Tryd.prog 68))) x) =
  (fun x =>
    Tree.br (decide (x.1.1 < (16 : Int)))
      (Tree.need ((0 : Int) ≤ x.1.1 ∧ x.1.1 < (16 : Int))
        (Tree.need ((0 : Int) ≤ x.1.1 ∧ x.1.1 < (16 : Int))
          (Tree.need
            (decide ((List.getD x.2.2.1 (Int.toNat x.1.1) ((0 : Int), (0 : Int))).1 < (List.getD x.2.1 (Int.toNat x.1.1) ((0 : Int), (0 : Int))).1) = true → (0 : Int) ≤ x.1.1 ∧ x.1.1 < (16 : Int))
            (Tree.need
              (decide ((List.getD x.2.2.1 (Int.toNat x.1.1) ((0 : Int), (0 : Int))).1 < (List.getD x.2.1 (Int.toNat x.1.1) ((0 : Int), (0 : Int))).1) = true → (0 : Int) ≤ x.1.1 ∧ x.1.1 < (16 : Int))
              (Tree.leaf
                (Ex.normal,
                  some
                    ((IntKind.wrap IntKind.i64 (x.1.1 + (1 : Int)), ()),
                      bif decide ((List.getD x.2.2.1 (Int.toNat x.1.1) ((0 : Int), (0 : Int))).1 < (List.getD x.2.1 (Int.toNat x.1.1) ((0 : Int), (0 : Int))).1) then
                        List.set x.2.1 (Int.toNat x.1.1) (List.getD x.2.2.1 (Int.toNat x.1.1) ((0 : Int), (0 : Int)))
                      else x.2.1,
                      x.2.2.1, ())))))))
      (Tree.leaf (Ex.exit (0 : Nat), some ((x.1.1, ()), x.2.1, x.2.2.1, ())))) := by kernel_rfl
theorem tbet_tree : (fun x : List DEnt × List DEnt => evFn (mkC tys [] [(0, tbetD.spec)]) (fnOf Tryd.prog 68) (resL tbetC.args x) tbetC.res) =
  (fun x => Tree.need ((0 : Int) ≤ (0 : Int) ∧ (0 : Int) ≤ (16 : Int)) (Tree.leaf (betK x.2 (Int.toNat ((16 : Int) - (0 : Int))) x.1))) := by kernel_rfl
theorem tbet_loop : LoopOK (mkC tys [] [(0, tbetD.spec)]) tbetD.spec (loopB 0 (bodyOf (fnOf Tryd.prog 68))) :=
  loopD_ok1 (fun _ => rfl) (fun x => congrFun tbet_round x) (fun (x : (Int × Unit) × (List DEnt × List DEnt × Unit)) => (16 - x.1.1).toNat) fun (x : (Int × Unit) × (List DEnt × List DEnt × Unit)) hp => by
    obtain ⟨⟨i, ⟨⟩⟩, a, b, ⟨⟩⟩ := x
    obtain ⟨h1, h2⟩ := hp
    simp only at h1 h2
    simp only [Tree.holds]
    refine ⟨fun h => ?_, fun h => ?_⟩
    · have h' : i < 16 := by simpa using h
      have e : IntKind.i64.wrap (i + 1) = i + 1 := i64_id (by omega) (by omega)
      obtain ⟨s1, s2⟩ := step_i h1 h'
      refine ⟨⟨h1, h'⟩, ⟨h1, h'⟩, fun _ => ⟨h1, h'⟩, fun _ => ⟨h1, h'⟩, ?_⟩
      refine ⟨_, rfl, ?_⟩
      rw [e]
      refine ⟨⟨?_, ?_⟩, ?_, ?_⟩
      · show 0 ≤ i + 1; omega
      · show i + 1 ≤ 16; omega
      · show (16 - (i + 1)).toNat < (16 - i).toNat; omega
      · show (Ex.exit 0, ((16, ()), (betK b (16 - (i + 1)).toNat (bif decide ((b.getD i.toNat ((0 : Int), (0 : Int))).1 < (a.getD i.toNat ((0 : Int), (0 : Int))).1) then a.set i.toNat (b.getD i.toNat ((0 : Int), (0 : Int))) else a), b, ()))) = _
        rw [betK_step h1 h']
    · have h' : ¬ i < 16 := by simpa using h
      have hi : i = 16 := by omega
      subst hi
      refine ⟨_, rfl, ?_⟩
      show (Ex.exit 0, ((16, ()), (betK b (16 - (16 : Int)).toNat a, b, ()))) = _
      rw [betK_end]; rfl
theorem tbet_ok : CtrOK Tryd.prog 68 tbetC :=
  fun_ok (G := []) (Λ := [(0, tbetD.spec)]) tysOK ctrs_nil mixed (by kernel_rfl) (by kernel_rfl) (by kernel_rfl) (by kernel_rfl) (lp_cons tbet_loop lp_nil) fun (x : List DEnt × List DEnt) hw _ => by
    rw [congrFun tbet_tree x]
    simp only [Tree.holds]
    refine ⟨⟨by omega, by omega⟩, ?_⟩
    exact betF_eq x.1 x.2
theorem rtbet_round : (fun x : (Int × Unit) × (List DEnt × List DEnt × Unit) => roundOf (mkC tys [] [(0, tbetD.spec)]) tbetD (loopB 0 (bodyOf (fnOf Tryd.prog 69))) x) =
  (fun x =>
    Tree.br (decide (x.1.1 < (16 : Int)))
      (Tree.need ((0 : Int) ≤ x.1.1 ∧ x.1.1 < (16 : Int))
        (Tree.need ((0 : Int) ≤ x.1.1 ∧ x.1.1 < (16 : Int))
          (Tree.need
            (decide ((List.getD x.2.2.1 (Int.toNat x.1.1) ((0 : Int), (0 : Int))).1 < (List.getD x.2.1 (Int.toNat x.1.1) ((0 : Int), (0 : Int))).1) = true → (0 : Int) ≤ x.1.1 ∧ x.1.1 < (16 : Int))
            (Tree.need
              (decide ((List.getD x.2.2.1 (Int.toNat x.1.1) ((0 : Int), (0 : Int))).1 < (List.getD x.2.1 (Int.toNat x.1.1) ((0 : Int), (0 : Int))).1) = true → (0 : Int) ≤ x.1.1 ∧ x.1.1 < (16 : Int))
              (Tree.leaf
                (Ex.normal,
                  some
                    ((IntKind.wrap IntKind.i64 (x.1.1 + (1 : Int)), ()),
                      bif decide ((List.getD x.2.2.1 (Int.toNat x.1.1) ((0 : Int), (0 : Int))).1 < (List.getD x.2.1 (Int.toNat x.1.1) ((0 : Int), (0 : Int))).1) then
                        List.set x.2.1 (Int.toNat x.1.1) (List.getD x.2.2.1 (Int.toNat x.1.1) ((0 : Int), (0 : Int)))
                      else x.2.1,
                      x.2.2.1, ())))))))
      (Tree.leaf (Ex.exit (0 : Nat), some ((x.1.1, ()), x.2.1, x.2.2.1, ())))) := by kernel_rfl
theorem rtbet_tree : (fun x : List DEnt × List DEnt => evFn (mkC tys [] [(0, tbetD.spec)]) (fnOf Tryd.prog 69) (resL tbetC.args x) tbetC.res) =
  (fun x => Tree.need ((0 : Int) ≤ (0 : Int) ∧ (0 : Int) ≤ (16 : Int)) (Tree.leaf (betK x.2 (Int.toNat ((16 : Int) - (0 : Int))) x.1))) := by kernel_rfl
theorem rtbet_loop : LoopOK (mkC tys [] [(0, tbetD.spec)]) tbetD.spec (loopB 0 (bodyOf (fnOf Tryd.prog 69))) :=
  loopD_ok1 (fun _ => rfl) (fun x => congrFun rtbet_round x) (fun (x : (Int × Unit) × (List DEnt × List DEnt × Unit)) => (16 - x.1.1).toNat) fun (x : (Int × Unit) × (List DEnt × List DEnt × Unit)) hp => by
    obtain ⟨⟨i, ⟨⟩⟩, a, b, ⟨⟩⟩ := x
    obtain ⟨h1, h2⟩ := hp
    simp only at h1 h2
    simp only [Tree.holds]
    refine ⟨fun h => ?_, fun h => ?_⟩
    · have h' : i < 16 := by simpa using h
      have e : IntKind.i64.wrap (i + 1) = i + 1 := i64_id (by omega) (by omega)
      obtain ⟨s1, s2⟩ := step_i h1 h'
      refine ⟨⟨h1, h'⟩, ⟨h1, h'⟩, fun _ => ⟨h1, h'⟩, fun _ => ⟨h1, h'⟩, _, rfl, ?_⟩
      rw [e]
      refine ⟨⟨?_, ?_⟩, ?_, ?_⟩
      · show 0 ≤ i + 1; omega
      · show i + 1 ≤ 16; omega
      · show (16 - (i + 1)).toNat < (16 - i).toNat; omega
      · show (Ex.exit 0, ((16, ()), (betK b (16 - (i + 1)).toNat (bif decide ((b.getD i.toNat ((0 : Int), (0 : Int))).1 < (a.getD i.toNat ((0 : Int), (0 : Int))).1) then a.set i.toNat (b.getD i.toNat ((0 : Int), (0 : Int))) else a), b, ()))) = _
        rw [betK_step h1 h']
    · have h' : ¬ i < 16 := by simpa using h
      have hi : i = 16 := by omega
      subst hi
      refine ⟨_, rfl, ?_⟩
      show (Ex.exit 0, ((16, ()), (betK b (16 - (16 : Int)).toNat a, b, ()))) = _
      rw [betK_end]; rfl
theorem rtbet_ok : CtrOK Tryd.prog 69 tbetC :=
  fun_ok (G := []) (Λ := [(0, tbetD.spec)]) tysOK ctrs_nil mixed (by kernel_rfl) (by kernel_rfl) (by kernel_rfl) (by kernel_rfl) (lp_cons rtbet_loop lp_nil) fun (x : List DEnt × List DEnt) hw _ => by
    rw [congrFun rtbet_tree x]
    simp only [Tree.holds]
    refine ⟨⟨by omega, by omega⟩, ?_⟩
    exact betF_eq x.1 x.2
theorem reach_low (t : List DEnt) : lowPre (reachT t) := by
  obtain ⟨m, h1, h2, _⟩ := reachK_nat t 16 (Nat.le_refl _) 0 (by decide)
  have h3 : reachT t = (m : Int) := h2
  rw [h3]
  exact ⟨by omega, by omega⟩
def tcountC : Ctr := { args := [gTree], res := [.int .i64], pre := none, fn := fun (x : List DEnt) => ((elemsF (reachT x) 16).length : Int) }
def tcountG : List (Nat × Ctr) := [(36, treachC), (87, ncountC)]
theorem tcount_tree : (fun x : List DEnt => evFn (mkC tys tcountG []) (fnOf Tryd.prog 70) (resL tcountC.args x) tcountC.res) =
  (fun x => Tree.need (lowPre (reachT x)) (Tree.leaf (↑(List.length (elemsF (reachT x) (16 : Nat))) : Int))) := by kernel_rfl
theorem tcount_ok : CtrOK Tryd.prog 70 tcountC :=
  fun_ok (G := tcountG) (Λ := []) tysOK (ctrs_cons treach_ok (ctrs_cons ncount_ok ctrs_nil)) mixed (by kernel_rfl) (by kernel_rfl) (by kernel_rfl) (by kernel_rfl) lp_nil fun (x : List DEnt) hw _ => by
    rw [congrFun tcount_tree x]
    exact holds_val (d := tcountC.fn x) (by kernel_rfl) (by simp [Tree.safe, reach_low])
def rtcountC : Ctr := { args := [gTree], res := [.int .i64], pre := none, fn := fun (x : List DEnt) => ((elemsF (reachT x) 16).length : Int) }
def rtcountG : List (Nat × Ctr) := [(37, rtreachC), (123, rcountC)]
theorem rtcount_tree : (fun x : List DEnt => evFn (mkC tys rtcountG []) (fnOf Tryd.prog 71) (resL rtcountC.args x) rtcountC.res) =
  (fun x => Tree.leaf (↑(List.length (elemsF (reachT x) (16 : Nat))) : Int)) := by kernel_rfl
theorem rtcount_ok : CtrOK Tryd.prog 71 rtcountC :=
  fun_ok (G := rtcountG) (Λ := []) tysOK (ctrs_cons rtreach_ok (ctrs_cons rcount_ok ctrs_nil)) mixed (by kernel_rfl) (by kernel_rfl) (by kernel_rfl) (by kernel_rfl) lp_nil fun (x : List DEnt) hw _ => by
    rw [congrFun rtcount_tree x]
    exact holds_val (d := rtcountC.fn x) (by kernel_rfl) (by simp [Tree.safe])
noncomputable def rtparC : Ctr := tparC
def rtbetC : Ctr := tbetC
noncomputable def treadsG : List (Nat × Ctr) := [(40, awake23C), (66, tparC), (67, rtparC), (68, tbetC), (69, rtbetC), (70, tcountC), (71, rtcountC), (38, ttextC), (30, tgetC), (72, rightC)]
theorem treadsG_ok : CtrsOK Tryd.prog (fun f => lk f treadsG) := (ctrs_cons awake23_ok (ctrs_cons tpar_ok (ctrs_cons rtpar_ok (ctrs_cons tbet_ok (ctrs_cons rtbet_ok (ctrs_cons tcount_ok (ctrs_cons rtcount_ok (ctrs_cons ttext_ok (ctrs_cons tget_ok (ctrs_cons right_ok ctrs_nil))))))))))
def treadsD : LoopD where
  prom := []
  ts := [(12, .val .bool), (68, .val (.int .i64)), (3, .ptr 3 gTree), (4, .ptr 4 gTree), (11, .ptr 11 gTree)]
  bs := [(3, .var gTree), (4, .var gTree), (11, .var gTree)]
  pre := fun (x : (Bool × Int × Unit) × (List DEnt × List DEnt × List DEnt × Unit)) => 0 ≤ x.1.2.1 ∧ x.1.2.1 ≤ 16 ∧ x.2.1.length = 16 ∧ x.2.2.2.1 = betF x.2.1 x.2.2.1
  out := fun (x : (Bool × Int × Unit) × (List DEnt × List DEnt × List DEnt × Unit)) => .leaf (.exit 0, ((plainK x.2.1 (16 - x.1.2.1).toNat x.1.1, 16, ()), x.2))
theorem treads_round : (fun x : (Bool × Int × Unit) × (List DEnt × List DEnt × List DEnt × Unit) => roundOf (mkC tys treadsG [(0, treadsD.spec)]) treadsD (loopB 0 (bodyOf (fnOf Tryd.prog 12))) x) =
  (fun x =>
    Tree.br (decide (x.1.2.1 < (16 : Int)))
      (Tree.br
        (bif bif decide ((getT x.2.2.2.1 x.1.2.1).1 > (getT x.2.1 x.1.2.1).1) then true else decide ((getT x.2.2.2.1 x.1.2.1).1 > (getT x.2.2.1 x.1.2.1).1) then true
        else
          bif !geq (GTy.prod (GTy.int IntKind.u32) (GTy.int IntKind.i64)) (getT x.2.2.2.1 x.1.2.1) (getT x.2.1 x.1.2.1) then
            !geq (GTy.prod (GTy.int IntKind.u32) (GTy.int IntKind.i64)) (getT x.2.2.2.1 x.1.2.1) (getT x.2.2.1 x.1.2.1)
          else false)
        (Tree.leaf (Ex.ret, some ((x.1.1, x.1.2.1, ()), x.2.1, x.2.2.1, x.2.2.2.1, ())))
        (Tree.leaf
          (Ex.normal,
            some
              ((bif x.1.1 then bif (getT x.2.1 x.1.2.1).2 == (-1 : Int) then true else bif rightF (getT x.2.1 x.1.2.1).2 then (getT x.2.1 x.1.2.1).1 != (4294967295 : Int) else false else false,
                  IntKind.wrap IntKind.i64 (x.1.2.1 + (1 : Int)), ()),
                x.2.1, x.2.2.1, x.2.2.2.1, ()))))
      (Tree.leaf (Ex.exit (0 : Nat), some ((x.1.1, x.1.2.1, ()), x.2.1, x.2.2.1, x.2.2.2.1, ())))) := by kernel_rfl
def treadsC : Ctr := { args := [gTree, gTree, .str], res := [.bool], pre := some (smallD [gTree, gTree, .str]), fn := fun _ => true }
theorem treads_tree : (fun x : List DEnt × List DEnt × List UInt8 => evFn (mkC tys treadsG [(0, treadsD.spec)]) (fnOf Tryd.prog 12) (resL treadsC.args x) treadsC.res) =
  (fun x =>
    Tree.br (decide ((↑(List.length x.2.2) : Int) > (600 : Int))) (Tree.leaf true)
      (Tree.need (List.length x.2.2 ≤ (1000 : Nat))
        (Tree.need (List.length x.2.2 ≤ (1000 : Nat))
          (Tree.br
            (bif
                bif
                    bif
                        bif !geq (GTy.arr (16 : Nat) (GTy.prod (GTy.int IntKind.u32) (GTy.int IntKind.i64))) (tparseF x.2.2).1 (tparseF x.2.2).1 then true
                        else (tparseF x.2.2).2 != (tparseF x.2.2).2 then
                      true
                    else !geq (GTy.arr (16 : Nat) (GTy.prod (GTy.int IntKind.u32) (GTy.int IntKind.i64))) (betF x.1 x.2.1) (betF x.1 x.2.1) then
                  true
                else (↑(List.length (elemsF (reachT x.1) (16 : Nat))) : Int) != (↑(List.length (elemsF (reachT x.1) (16 : Nat))) : Int) then
              true
            else bif (tparseF x.2.2).2 == (0 : Int) then !treeB (tparseF x.2.2).1 == x.2.2 else false)
            (Tree.leaf false)
            (Tree.need ((0 : Int) ≤ (0 : Int) ∧ (0 : Int) ≤ (16 : Int) ∧ List.length x.1 = (16 : Nat) ∧ betF x.1 x.2.1 = betF x.1 x.2.1)
              (Tree.br (!plainK x.1 (Int.toNat ((16 : Int) - (0 : Int))) true) (Tree.leaf true)
                (Tree.need (List.length (treeB x.1) ≤ (1000 : Nat))
                  (Tree.leaf
                    (bif bif (tparseF (treeB x.1)).2 == (0 : Int) then geq (GTy.arr (16 : Nat) (GTy.prod (GTy.int IntKind.u32) (GTy.int IntKind.i64))) (tparseF (treeB x.1)).1 x.1 else false then true
                    else false))))))))) := by kernel_rfl
theorem treads_loop : LoopOK (mkC tys treadsG [(0, treadsD.spec)]) treadsD.spec (loopB 0 (bodyOf (fnOf Tryd.prog 12))) :=
  loopD_ok1 (fun _ => rfl) (fun x => congrFun treads_round x) (fun (x : (Bool × Int × Unit) × (List DEnt × List DEnt × List DEnt × Unit)) => (16 - x.1.2.1).toNat) fun (x : (Bool × Int × Unit) × (List DEnt × List DEnt × List DEnt × Unit)) hp => by
    obtain ⟨⟨p, i, ⟨⟩⟩, a, b, c, ⟨⟩⟩ := x
    obtain ⟨h1, h2, h3, h4⟩ := hp
    simp only at h1 h2 h3 h4
    subst h4
    simp only [Tree.holds]
    refine ⟨fun h => ?_, fun h => ?_⟩
    · have h' : i < 16 := by simpa using h
      have e : IntKind.i64.wrap (i + 1) = i + 1 := i64_id (by omega) (by omega)
      have s1 := (step_i h1 h').1
      have s2 := (step_i h1 h').2
      have ew : getT (betF a b) i = betE (getT a i) (getT b i) := by
        rw [get_at h1 h', get_at h1 h', get_at h1 h']
        exact bet_at h3 (by omega)
      have hl := betE_low (getT a i) (getT b i)
      rw [ew, hl.1, hl.2.1]
      simp only [cond_false]
      refine ⟨fun hb => ?_, fun _ => ⟨_, rfl, ⟨?_, ?_, h3, rfl⟩, ?_, ?_⟩⟩
      · exfalso
        rcases hl.2.2 with hq | hq <;> rw [hq] at hb
        · have : geq (GTy.prod (GTy.int IntKind.u32) (GTy.int IntKind.i64)) (getT a i) (getT a i) = true := geq_self gEnt _ rfl
          rw [this] at hb
          cases hb
        · have : geq (GTy.prod (GTy.int IntKind.u32) (GTy.int IntKind.i64)) (getT b i) (getT b i) = true := geq_self gEnt _ rfl
          rw [this] at hb
          cases hh : geq (GTy.prod (GTy.int IntKind.u32) (GTy.int IntKind.i64)) (getT b i) (getT a i) <;> rw [hh] at hb <;> cases hb
      · show 0 ≤ IntKind.i64.wrap (i + 1); omega
      · show IntKind.i64.wrap (i + 1) ≤ 16; omega
      · show (16 - IntKind.i64.wrap (i + 1)).toNat < (16 - i).toNat; omega
      · rw [e]
        have eg : (bif (getT a i).2 == (-1 : Int) then true else bif rightF (getT a i).2 then (getT a i).1 != (4294967295 : Int) else false) = plB (entAt a i.toNat) := by
          rw [get_at h1 h']; rfl
        rw [eg]
        rw [plainK_step h1 h']
    · have h' : ¬ i < 16 := by simpa using h
      have hi : i = 16 := by omega
      subst hi
      refine ⟨_, rfl, ?_⟩
      show (Ex.exit 0, ((plainK a (16 - (16 : Int)).toNat p, 16, ()), (a, b, betF a b, ()))) = _
      rw [plainK_end]; rfl
theorem treads_ok : CtrOK Tryd.prog 12 treadsC :=
  fun_ok (G := treadsG) (Λ := [(0, treadsD.spec)]) tysOK treadsG_ok mixed (by kernel_rfl) (by kernel_rfl) (by kernel_rfl) (by kernel_rfl) (lp_cons treads_loop lp_nil) fun (x : List DEnt × List DEnt × List UInt8) hw _ => by
    have hla : x.1.length = 16 := hw.1.1
    have hoa : tOK x.1 := tOK_wt hw.1
    show (evFn (mkC tys treadsG [(0, treadsD.spec)]) (fnOf Tryd.prog 12) (resL treadsC.args x) treadsC.res).holds (fun y => y = true)
    rw [congrFun treads_tree x]
    have g1 : geq (GTy.arr (16 : Nat) (GTy.prod (GTy.int IntKind.u32) (GTy.int IntKind.i64))) (tparseF x.2.2).1 (tparseF x.2.2).1 = true := geq_self gTree _ rfl
    have g2 : geq (GTy.arr (16 : Nat) (GTy.prod (GTy.int IntKind.u32) (GTy.int IntKind.i64))) (betF x.1 x.2.1) (betF x.1 x.2.1) = true := geq_self gTree _ rfl
    have g3 : ((tparseF x.2.2).2 != (tparseF x.2.2).2) = false := by simp
    have g4 : ((((elemsF (reachT x.1) 16).length : Int)) != (((elemsF (reachT x.1) 16).length : Int))) = false := by simp
    have g5 : (bif (tparseF x.2.2).2 == (0 : Int) then !treeB (tparseF x.2.2).1 == x.2.2 else false) = false := by
      cases hz : (tparseF x.2.2).2 == (0 : Int) with
      | false => rfl
      | true =>
        have := (tparse_ok hz).2
        rw [this]
        simp
    rw [g1, g2, g3, g4, g5]
    simp only [Tree.holds]
    refine ⟨fun _ => trivial, fun h => ?_⟩
    have hlen : x.2.2.length ≤ 1000 := by have := of_decide_eq_false h; omega
    refine ⟨hlen, hlen, fun hf => (by cases hf), fun _ => ⟨⟨Int.le_refl _, by decide, hla, trivial⟩, fun _ => trivial, fun hp => ?_⟩⟩
    have hp' : plainK x.1 16 true = true := by
      have : (!plainK x.1 16 true) = false := hp
      cases hh : plainK x.1 16 true with
      | true => rfl
      | false => rw [hh] at this; cases this
    have ht := plain_of hla hoa hp'
    have hs := tree_short ht
    refine ⟨by omega, ?_⟩
    rw [tparse_told ht (by omega)]
    have g6 : geq (GTy.arr (16 : Nat) (GTy.prod (GTy.int IntKind.u32) (GTy.int IntKind.i64))) x.1 x.1 = true := geq_self gTree _ rfl
    simp only
    rw [g6]
    rfl
end Go.Ev.D
