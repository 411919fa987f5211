/- Commands as texts: the document's answer. -/
import Derived.Test.YtohodbfoeejbjaaDoorTextShellBack7

set_option linter.unusedVariables false
set_option linter.unusedSimpArgs false
namespace Go.Ev.D
open Go.Proofs
def rcwC : Ctr := { args := [.int .i64], res := [.str], pre := some (fun (x : Int) => 0 ≤ x ∧ x < 5), fn := fun (x : Int) => wordK x }
theorem rcw_tree : (fun x : Int => evFn (mkC tys [] []) (fnOf Tryd.prog 116) (resL rcwC.args x) rcwC.res) =
  (fun x =>
    Tree.need ((0 : Int) ≤ Int.tmod x (5 : Int) ∧ Int.tmod x (5 : Int) < (5 : Int))
      (Tree.leaf
        (List.getD
          [[], [(108 : UInt8), (105 : UInt8), (110 : UInt8), (107 : UInt8)], [(99 : UInt8), (117 : UInt8), (116 : UInt8)], [(115 : UInt8), (101 : UInt8), (110 : UInt8), (100 : UInt8)],
            [(115 : UInt8), (104 : UInt8), (111 : UInt8), (119 : UInt8)]]
          (Int.toNat (Int.tmod x (5 : Int))) []))) := by kernel_rfl
theorem rcw_ok : CtrOK Tryd.prog 116 rcwC :=
  fun_ok (G := []) (Λ := []) tysOK ctrs_nil mixed (by kernel_rfl) (by kernel_rfl) (by kernel_rfl) (by kernel_rfl) lp_nil fun (x : Int) hw hp => by
    have hp' : 0 ≤ (x : Int) ∧ (x : Int) < 5 := hp (fun (x : Int) => 0 ≤ x ∧ x < 5) rfl
    rw [congrFun rcw_tree x]
    have : x = 0 ∨ x = 1 ∨ x = 2 ∨ x = 3 ∨ x = 4 := by omega
    rcases this with rfl | rfl | rfl | rfl | rfl <;> exact ⟨⟨by decide, by decide⟩, rfl⟩
def rcdC (k : Nat) : Ctr := { args := [.int .i64], res := [.str], pre := some (fun (x : Int) => x < 10 ^ k), fn := fun (x : Int) => natT x.toNat }
theorem rcd_tree : (fun x : Nat × Int => evFn (mkC tys [(117, rcdC x.1)] []) (fnOf Tryd.prog 117) (resL [.int .i64] x.2) [.str]) =
  (fun x =>
    Tree.br (decide (x.2 < (10 : Int))) (Tree.leaf (bytesToStr [IntKind.wrap IntKind.u8 (IntKind.wrap IntKind.i64 ((48 : Int) + if (0 : Int) < x.2 then x.2 else (0 : Int)))]))
      (Tree.need (IntKind.wrap IntKind.i64 (Int.tdiv x.2 (10 : Int)) < (10 : Int) ^ x.1)
        (Tree.need
          (List.length (natT (Int.toNat (IntKind.wrap IntKind.i64 (Int.tdiv x.2 (10 : Int))))) +
              List.length (bytesToStr [IntKind.wrap IntKind.u8 (IntKind.wrap IntKind.i64 ((48 : Int) + Int.tmod x.2 (10 : Int)))]) ≤
            (4611686018427387904 : Nat))
          (Tree.leaf (natT (Int.toNat (IntKind.wrap IntKind.i64 (Int.tdiv x.2 (10 : Int)))) ++ bytesToStr [IntKind.wrap IntKind.u8 (IntKind.wrap IntKind.i64 ((48 : Int) + Int.tmod x.2 (10 : Int)))]))))) := by kernel_rfl
theorem rcd0_tree : (fun x : Int => evFn (mkC tys [] []) (fnOf Tryd.prog 117) (resL [.int .i64] x) [.str]) =
  (fun x => Tree.br (decide (x < (10 : Int))) (Tree.leaf (bytesToStr [IntKind.wrap IntKind.u8 (IntKind.wrap IntKind.i64 ((48 : Int) + if (0 : Int) < x then x else (0 : Int)))])) Tree.stuck) := by kernel_rfl
theorem rcd_ok : ∀ k, CtrOK Tryd.prog 117 (rcdC k)
  | 0 => fun_ok (G := []) (Λ := []) tysOK ctrs_nil mixed (by kernel_rfl) (by kernel_rfl) (by kernel_rfl) (by kernel_rfl) lp_nil fun (x : Int) hw hp => by
    have h : x < 10 ^ 0 := hp _ rfl
    show (evFn (mkC tys [] []) (fnOf Tryd.prog 117) (resL [.int .i64] x) [.str]).holds (fun y => y = natT x.toNat)
    rw [congrFun rcd0_tree x]
    simp only [Tree.holds]
    refine ⟨fun h1 => digs_low (by omega), fun h1 => ?_⟩
    have : ¬ x < 10 := of_decide_eq_false h1
    omega
  | k + 1 => fun_ok (G := [(117, rcdC k)]) (Λ := []) tysOK (ctrs_cons (rcd_ok k) ctrs_nil) mixed (by kernel_rfl) (by kernel_rfl) (by kernel_rfl) (by kernel_rfl) lp_nil fun (x : Int) hw hp => by
    have h : x < 10 ^ (k + 1) := hp _ rfl
    have hx : x ≤ 9223372036854775807 := by
      have : IntKind.i64.has x := hw
      exact ((has_i64 x).1 this).2
    show (evFn (mkC tys [(117, rcdC (k, x).1)] []) (fnOf Tryd.prog 117) (resL [.int .i64] (k, x).2) [.str]).holds (fun y => y = natT x.toNat)
    rw [congrFun rcd_tree (k, x)]
    simp only [Tree.holds]
    refine ⟨fun h1 => digs_low (of_decide_eq_true h1), fun h1 => ?_⟩
    have h10 : ¬ x < 10 := of_decide_eq_false h1
    have e := digs_quo h10 hx
    refine ⟨?_, ?_, digs_more h10 hx⟩
    · rw [e]
      rw [Int.pow_succ] at h
      omega
    · have h2 := digN_len 20 (Int.toNat (IntKind.wrap IntKind.i64 (Int.tdiv x (10 : Int))))
      have h3 : (bytesToStr [IntKind.wrap IntKind.u8 (IntKind.wrap IntKind.i64 ((48 : Int) + Int.tmod x (10 : Int)))]).length = 1 := rfl
      unfold natT
      omega
def rcrC : Ctr := { args := [gCmd], res := [.bool], pre := none, fn := fun (x : DCmd) => crightF x }
def rcrG : List (Nat × Ctr) := [(99, rrightC)]
theorem rcr_tree : (fun x : DCmd => evFn (mkC tys rcrG []) (fnOf Tryd.prog 61) (resL rcrC.args x) rcrC.res) =
  (fun x =>
    Tree.br (!rightF x.2.1) (Tree.leaf false)
      (Tree.br (x.1 == (1 : Int)) (Tree.leaf (bif decide (x.2.2 ≥ (1 : Int)) then decide (x.2.2 ≤ (65536 : Int)) else false))
        (Tree.br (x.1 == (3 : Int)) (Tree.leaf (bif decide (x.2.2 ≥ (1 : Int)) then decide (x.2.2 ≤ (64 : Int)) else false))
          (Tree.br (bif x.1 == (2 : Int) then x.1 == (2 : Int) else x.1 == (4 : Int)) (Tree.leaf (x.2.2 == (0 : Int))) (Tree.leaf false))))) := by kernel_rfl
theorem rcr_ok : CtrOK Tryd.prog 61 rcrC :=
  fun_ok (G := rcrG) (Λ := []) tysOK (ctrs_cons rright_ok ctrs_nil) mixed (by kernel_rfl) (by kernel_rfl) (by kernel_rfl) (by kernel_rfl) lp_nil fun (x : DCmd) hw _ => by
    rw [congrFun rcr_tree x]
    exact holds_val (d := rcrC.fn x) (by kernel_rfl) (by simp [Tree.safe])
def rcp : Ctr := rcdC 19
theorem rcp_d : CtrOK Tryd.prog 117 rcp := rcd_ok 19
def rcpG : List (Nat × Ctr) := [(61, rcrC), (116, rcwC), (101, rwithC), (106, rtextC), (117, rcp)]
theorem rcp_tree : (fun x : DCmd => evFn (mkC tys rcpG []) (fnOf Tryd.prog 57) (resL cprintC.args x) cprintC.res) =
  (fun x =>
    Tree.br (!crightF x) (Tree.leaf ([], (1 : Int)))
      (Tree.need ((0 : Int) ≤ x.1 ∧ x.1 < (5 : Int))
        (Tree.need (List.length (wordK x.1) + (1 : Nat) ≤ (4611686018427387904 : Nat))
          (Tree.need (List.length (wordK x.1 ++ [(32 : UInt8)]) + List.length (textN (withF (0 : Int) x.2.1)) ≤ (4611686018427387904 : Nat))
            (Tree.need (decide (x.2.2 > (0 : Int)) = true → x.2.2 < (10000000000000000000 : Int))
              (Tree.need (decide (x.2.2 > (0 : Int)) = true → (1 : Nat) + List.length (natT (Int.toNat x.2.2)) ≤ (4611686018427387904 : Nat))
                (Tree.need
                  (decide (x.2.2 > (0 : Int)) = true →
                    List.length (wordK x.1 ++ [(32 : UInt8)] ++ textN (withF (0 : Int) x.2.1)) + List.length ([(32 : UInt8)] ++ natT (Int.toNat x.2.2)) ≤ (4611686018427387904 : Nat))
                  (Tree.leaf
                    (bif decide (x.2.2 > (0 : Int)) then wordK x.1 ++ [(32 : UInt8)] ++ textN (withF (0 : Int) x.2.1) ++ ([(32 : UInt8)] ++ natT (Int.toNat x.2.2))
                      else wordK x.1 ++ [(32 : UInt8)] ++ textN (withF (0 : Int) x.2.1),
                      (0 : Int)))))))))) := by kernel_rfl
theorem rcp_ok : CtrOK Tryd.prog 57 cprintC :=
  fun_ok (G := rcpG) (Λ := []) tysOK (ctrs_cons rcr_ok (ctrs_cons rcw_ok (ctrs_cons rwith_ok (ctrs_cons rtext_ok (ctrs_cons rcp_d ctrs_nil))))) mixed (by kernel_rfl) (by kernel_rfl) (by kernel_rfl) (by kernel_rfl) lp_nil fun (x : DCmd) hw _ => by
    rw [congrFun rcp_tree x]
    have b1 := wordK_len x.1
    have b2 := textN_len (withF 0 x.2.1)
    have b3 : (natT x.2.2.toNat).length ≤ 20 := digN_len _ _
    have e : cprintC.fn x = cprintF x := rfl
    have hi : IntKind.i64.has x.2.2 := hw.2.2
    rw [has_i64] at hi
    rw [e]
    unfold cprintF
    cases hr : crightF x with
    | false => simp [Tree.holds]; rfl
    | true =>
      have hk := cright_of hr
      simp only [Tree.holds, Bool.not_true, cond_false, List.length_append, List.length_cons, List.length_nil]
      refine ⟨nofun, fun _ => ⟨⟨?_, ?_⟩, by omega, by omega, fun _ => by omega, fun _ => by omega, fun _ => by omega, ?_⟩⟩
      · rcases hk.2.2 with h | h | h | h <;> omega
      · rcases hk.2.2 with h | h | h | h <;> omega
      · unfold cprintT
        by_cases hn : x.2.2 > 0
        · rw [decide_eq_true hn]
          have e2 : itoaF x.2.2 = natT x.2.2.toNat := by
            unfold itoaF
            rw [decide_eq_false (by omega)]
            rfl
          rw [e2]
        · rw [decide_eq_false hn]; rfl
def rcpC : Ctr := cprintC
def rparseG : List (Nat × Ctr) := [(57, rcpC), (116, rcwC), (122, nparseC), (123, rcountC), (105, rlistC)]
def dgD : LoopD where
  prom := []
  ts := [(2, .ptr 2 gCmd), (3, .val (.int .i64)), (4, .ptr 4 gCmd), (34, .ptr 34 .unit)]
  bs := [(2, .var gCmd), (4, .var gCmd), (34, .iter)]
  pre := fun (x : (Int × Unit) × DCmd × DCmd × (List UInt8 × Nat) × Unit) => dgPre x
  out := fun (x : (Int × Unit) × DCmd × DCmd × (List UInt8 × Nat) × Unit) => out2 3 (runF dgStp (dgMu x + 1) x)
def rpD : LoopD where
  prom := []
  ts := [(2, .ptr 2 gCmd), (3, .val (.int .i64)), (4, .ptr 4 gCmd), (5, .val (.int .i64)), (6, .val .str), (22, .ptr 22 .unit)]
  bs := [(2, .var gCmd), (4, .var gCmd), (22, .iter)]
  pre := fun (x : (Int × Int × List UInt8 × Unit) × DCmd × DCmd × (List UInt8 × Nat) × Unit) => rPre x
  out := fun (x : (Int × Int × List UInt8 × Unit) × DCmd × DCmd × (List UInt8 × Nat) × Unit) => out2 0 (runF rStp (rMu x + 1) x)
noncomputable def rparseL : List (Nat × LoopSpec) := [(3, dgD.spec), (5, rounds (mkC tys rparseG []) (loopB 5 (bodyOf (fnOf Tryd.prog 59))) [] [4, 6, 9] [4] 5), (0, rpD.spec)]
theorem dg_round : (fun x : (Int × Unit) × DCmd × DCmd × (List UInt8 × Nat) × Unit => roundOf (mkC tys rparseG rparseL) dgD (loopB 3 (bodyOf (fnOf Tryd.prog 59))) x) =
  (fun x =>
    Tree.br (Nat.blt x.2.2.2.1.2 (List.length x.2.2.2.1.1))
      (Tree.need (Nat.blt x.2.2.2.1.2 (List.length x.2.2.2.1.1) = true)
        (Tree.br
          (bif bif decide ((↑(decL x.2.2.2.1.1 x.2.2.2.1.2).1 : Int) < (48 : Int)) then true else decide ((↑(decL x.2.2.2.1.1 x.2.2.2.1.2).1 : Int) > (57 : Int)) then true
          else decide (x.2.2.1.2.2 > (1048576 : Int)))
          (Tree.leaf (Ex.ret, some (((3 : Int), ()), ((0 : Int), (0 : Int), (0 : Int)), x.2.2.1, (x.2.2.2.1.1, decN x.2.2.2.1.1 x.2.2.2.1.2), ())))
          (Tree.leaf
            (Ex.normal,
              some
                ((x.1.1, ()), x.2.1,
                  (x.2.2.1.1, x.2.2.1.2.1,
                    IntKind.wrap IntKind.i64
                      (IntKind.wrap IntKind.i64 ((10 : Int) * x.2.2.1.2.2) + IntKind.wrap IntKind.i64 (IntKind.wrap IntKind.i32 ((↑(decL x.2.2.2.1.1 x.2.2.2.1.2).1 : Int) - (48 : Int))))),
                  (x.2.2.2.1.1, decN x.2.2.2.1.1 x.2.2.2.1.2), ())))))
      (Tree.leaf (Ex.exit (3 : Nat), some ((x.1.1, ()), x.2.1, x.2.2.1, (x.2.2.2.1.1, decN x.2.2.2.1.1 x.2.2.2.1.2), ())))) := by kernel_rfl
theorem dg_loop : LoopOK (mkC tys rparseG rparseL) dgD.spec (loopB 3 (bodyOf (fnOf Tryd.prog 59))) :=
  loopF2_ok (id := 3) (D := dgD) (fun x => congrFun dg_round x) dgStp dgMu (fun _ => rfl) dgStp_ends fun (x : (Int × Unit) × DCmd × DCmd × (List UInt8 × Nat) × Unit) hp => by
    refine ⟨?_, fun hn => dg_go hn hp⟩
    obtain ⟨⟨er, ⟨⟩⟩, c2, ⟨k, nd, n⟩, ⟨y, pos⟩, ⟨⟩⟩ := x
    obtain ⟨h1, h2⟩ := hp
    simp only at h1 h2
    have hr := decL_lt y pos
    have e1 : IntKind.wrap IntKind.i64 (10 * n) = n * 10 := by rw [Int.mul_comm]; exact i64_id (by omega) (by omega)
    have e2 : IntKind.wrap IntKind.i64 (IntKind.wrap IntKind.i32 (((decL y pos).1 : Int) - 48)) = ((decL y pos).1 : Int) - 48 := by
      rw [show IntKind.wrap IntKind.i32 (((decL y pos).1 : Int) - 48) = ((decL y pos).1 : Int) - 48 from i32_id (by omega) (by omega)]
      exact i64_id (by omega) (by omega)
    have e3 : IntKind.wrap IntKind.i64 (n * 10 + (((decL y pos).1 : Int) - 48)) = n * 10 + (((decL y pos).1 : Int) - 48) := i64_id (by omega) (by omega)
    simp only [Tree.holds, dgStp]
    rw [e1, e2, e3]
    refine ⟨fun h => ⟨h, fun h2 => ?_, fun h2 => ?_⟩, fun h => ?_⟩
    · have h2' : badD 1048576 ((decL y pos).1 : Int) n = true := h2
      rw [h, h2']; rfl
    · have h2' : badD 1048576 ((decL y pos).1 : Int) n = false := h2
      rw [h, h2']; rfl
    · rw [h]; rfl
theorem rp_round : (fun x : (Int × Int × List UInt8 × Unit) × DCmd × DCmd × (List UInt8 × Nat) × Unit => roundOf (mkC tys rparseG rparseL) rpD (loopB 0 (bodyOf (fnOf Tryd.prog 59))) x) =
  (fun x =>
    Tree.br (Nat.blt x.2.2.2.1.2 (List.length x.2.2.2.1.1))
      (Tree.need (Nat.blt x.2.2.2.1.2 (List.length x.2.2.2.1.1) = true)
        (Tree.br ((↑(decL x.2.2.2.1.1 x.2.2.2.1.2).1 : Int) != (32 : Int))
          (Tree.need (List.length x.1.2.2.1 + List.length (encR (↑(decL x.2.2.2.1.1 x.2.2.2.1.2).1 : Int)) ≤ (4611686018427387904 : Nat))
            (Tree.leaf (Ex.normal, some ((x.1.1, x.1.2.1, x.1.2.2.1 ++ encR (↑(decL x.2.2.2.1.1 x.2.2.2.1.2).1 : Int), ()), x.2.1, x.2.2.1, (x.2.2.2.1.1, decN x.2.2.2.1.1 x.2.2.2.1.2), ()))))
          (Tree.br (x.1.2.1 == (0 : Int))
            (Tree.br true
              (Tree.need ((0 : Int) ≤ (1 : Int) ∧ (1 : Int) < (5 : Int))
                (Tree.br true
                  (Tree.need ((0 : Int) ≤ (2 : Int) ∧ (2 : Int) < (5 : Int))
                    (Tree.br true
                      (Tree.need ((0 : Int) ≤ (3 : Int) ∧ (3 : Int) < (5 : Int))
                        (Tree.br true
                          (Tree.need ((0 : Int) ≤ (4 : Int) ∧ (4 : Int) < (5 : Int))
                            (Tree.br false (Tree.need ((0 : Int) ≤ (5 : Int) ∧ (5 : Int) < (5 : Int)) Tree.stuck)
                              (Tree.leaf
                                (Ex.normal,
                                  some
                                    ((x.1.1, IntKind.wrap IntKind.i64 (x.1.2.1 + (1 : Int)), [], ()), x.2.1,
                                      bif wordK (4 : Int) == x.1.2.2.1 then
                                        ((4 : Int),
                                          (bif wordK (3 : Int) == x.1.2.2.1 then
                                              ((3 : Int),
                                                (bif wordK (2 : Int) == x.1.2.2.1 then ((2 : Int), (bif wordK (1 : Int) == x.1.2.2.1 then ((1 : Int), x.2.2.1.2) else x.2.2.1).2)
                                                  else bif wordK (1 : Int) == x.1.2.2.1 then ((1 : Int), x.2.2.1.2) else x.2.2.1).2)
                                            else
                                              bif wordK (2 : Int) == x.1.2.2.1 then ((2 : Int), (bif wordK (1 : Int) == x.1.2.2.1 then ((1 : Int), x.2.2.1.2) else x.2.2.1).2)
                                              else bif wordK (1 : Int) == x.1.2.2.1 then ((1 : Int), x.2.2.1.2) else x.2.2.1).2)
                                      else
                                        bif wordK (3 : Int) == x.1.2.2.1 then
                                          ((3 : Int),
                                            (bif wordK (2 : Int) == x.1.2.2.1 then ((2 : Int), (bif wordK (1 : Int) == x.1.2.2.1 then ((1 : Int), x.2.2.1.2) else x.2.2.1).2)
                                              else bif wordK (1 : Int) == x.1.2.2.1 then ((1 : Int), x.2.2.1.2) else x.2.2.1).2)
                                        else
                                          bif wordK (2 : Int) == x.1.2.2.1 then ((2 : Int), (bif wordK (1 : Int) == x.1.2.2.1 then ((1 : Int), x.2.2.1.2) else x.2.2.1).2)
                                          else bif wordK (1 : Int) == x.1.2.2.1 then ((1 : Int), x.2.2.1.2) else x.2.2.1,
                                      (x.2.2.2.1.1, decN x.2.2.2.1.1 x.2.2.2.1.2), ())))))
                          (Tree.leaf
                            (Ex.normal,
                              some
                                ((x.1.1, IntKind.wrap IntKind.i64 (x.1.2.1 + (1 : Int)), [], ()), x.2.1,
                                  bif wordK (3 : Int) == x.1.2.2.1 then
                                    ((3 : Int),
                                      (bif wordK (2 : Int) == x.1.2.2.1 then ((2 : Int), (bif wordK (1 : Int) == x.1.2.2.1 then ((1 : Int), x.2.2.1.2) else x.2.2.1).2)
                                        else bif wordK (1 : Int) == x.1.2.2.1 then ((1 : Int), x.2.2.1.2) else x.2.2.1).2)
                                  else
                                    bif wordK (2 : Int) == x.1.2.2.1 then ((2 : Int), (bif wordK (1 : Int) == x.1.2.2.1 then ((1 : Int), x.2.2.1.2) else x.2.2.1).2)
                                    else bif wordK (1 : Int) == x.1.2.2.1 then ((1 : Int), x.2.2.1.2) else x.2.2.1,
                                  (x.2.2.2.1.1, decN x.2.2.2.1.1 x.2.2.2.1.2), ())))))
                      (Tree.leaf
                        (Ex.normal,
                          some
                            ((x.1.1, IntKind.wrap IntKind.i64 (x.1.2.1 + (1 : Int)), [], ()), x.2.1,
                              bif wordK (2 : Int) == x.1.2.2.1 then ((2 : Int), (bif wordK (1 : Int) == x.1.2.2.1 then ((1 : Int), x.2.2.1.2) else x.2.2.1).2)
                              else bif wordK (1 : Int) == x.1.2.2.1 then ((1 : Int), x.2.2.1.2) else x.2.2.1,
                              (x.2.2.2.1.1, decN x.2.2.2.1.1 x.2.2.2.1.2), ())))))
                  (Tree.leaf
                    (Ex.normal,
                      some
                        ((x.1.1, IntKind.wrap IntKind.i64 (x.1.2.1 + (1 : Int)), [], ()), x.2.1, bif wordK (1 : Int) == x.1.2.2.1 then ((1 : Int), x.2.2.1.2) else x.2.2.1,
                          (x.2.2.2.1.1, decN x.2.2.2.1.1 x.2.2.2.1.2), ())))))
              (Tree.leaf (Ex.normal, some ((x.1.1, IntKind.wrap IntKind.i64 (x.1.2.1 + (1 : Int)), [], ()), x.2.1, x.2.2.1, (x.2.2.2.1.1, decN x.2.2.2.1.1 x.2.2.2.1.2), ()))))
            (Tree.br (x.1.2.1 == (1 : Int))
              (Tree.br (bif (nparseF x.1.2.2.1).2 != (0 : Int) then true else (↑(List.length (elemsF (nparseF x.1.2.2.1).1 (16 : Nat))) : Int) != (1 : Int))
                (Tree.leaf (Ex.ret, some (((3 : Int), x.1.2.1, x.1.2.2.1, ()), ((0 : Int), (0 : Int), (0 : Int)), x.2.2.1, (x.2.2.2.1.1, decN x.2.2.2.1.1 x.2.2.2.1.2), ())))
                (Tree.need ((0 : Int) ≤ (0 : Int) ∧ (0 : Int) < (↑(List.length (elemsF (nparseF x.1.2.2.1).1 (16 : Nat))) : Int))
                  (Tree.leaf
                    (Ex.normal,
                      some
                        ((x.1.1, IntKind.wrap IntKind.i64 (x.1.2.1 + (1 : Int)), [], ()), x.2.1, (x.2.2.1.1, List.getD (elemsF (nparseF x.1.2.2.1).1 (16 : Nat)) (0 : Nat) (0 : Int), x.2.2.1.2.2),
                          (x.2.2.2.1.1, decN x.2.2.2.1.1 x.2.2.2.1.2), ())))))
              (Tree.need (dgPre ((x.1.1, PUnit.unit), x.2.1, x.2.2.1, (x.1.2.2.1, (0 : Nat)), PUnit.unit))
                (Tree.br
                  (isRet
                    (runF dgStp (dgMu ((x.1.1, PUnit.unit), x.2.1, x.2.2.1, (x.1.2.2.1, (0 : Nat)), PUnit.unit) + (1 : Nat)) ((x.1.1, PUnit.unit), x.2.1, x.2.2.1, (x.1.2.2.1, (0 : Nat)), PUnit.unit)).1)
                  (Tree.leaf
                    (Ex.ret,
                      some
                        (((runF dgStp (dgMu ((x.1.1, PUnit.unit), x.2.1, x.2.2.1, (x.1.2.2.1, (0 : Nat)), PUnit.unit) + (1 : Nat))
                                    ((x.1.1, PUnit.unit), x.2.1, x.2.2.1, (x.1.2.2.1, (0 : Nat)), PUnit.unit)).2.1.1,
                            x.1.2.1, x.1.2.2.1, ()),
                          (runF dgStp (dgMu ((x.1.1, PUnit.unit), x.2.1, x.2.2.1, (x.1.2.2.1, (0 : Nat)), PUnit.unit) + (1 : Nat))
                                  ((x.1.1, PUnit.unit), x.2.1, x.2.2.1, (x.1.2.2.1, (0 : Nat)), PUnit.unit)).2.2.1,
                          (runF dgStp (dgMu ((x.1.1, PUnit.unit), x.2.1, x.2.2.1, (x.1.2.2.1, (0 : Nat)), PUnit.unit) + (1 : Nat))
                                    ((x.1.1, PUnit.unit), x.2.1, x.2.2.1, (x.1.2.2.1, (0 : Nat)), PUnit.unit)).2.2.2.1,
                          (x.2.2.2.1.1, decN x.2.2.2.1.1 x.2.2.2.1.2), ())))
                  (Tree.leaf
                    (Ex.normal,
                      some
                        (((runF dgStp (dgMu ((x.1.1, PUnit.unit), x.2.1, x.2.2.1, (x.1.2.2.1, (0 : Nat)), PUnit.unit) + (1 : Nat))
                                    ((x.1.1, PUnit.unit), x.2.1, x.2.2.1, (x.1.2.2.1, (0 : Nat)), PUnit.unit)).2.1.1,
                            IntKind.wrap IntKind.i64 (x.1.2.1 + (1 : Int)), [], ()),
                          (runF dgStp (dgMu ((x.1.1, PUnit.unit), x.2.1, x.2.2.1, (x.1.2.2.1, (0 : Nat)), PUnit.unit) + (1 : Nat))
                                  ((x.1.1, PUnit.unit), x.2.1, x.2.2.1, (x.1.2.2.1, (0 : Nat)), PUnit.unit)).2.2.1,
                          (runF dgStp (dgMu ((x.1.1, PUnit.unit), x.2.1, x.2.2.1, (x.1.2.2.1, (0 : Nat)), PUnit.unit) + (1 : Nat))
                                    ((x.1.1, PUnit.unit), x.2.1, x.2.2.1, (x.1.2.2.1, (0 : Nat)), PUnit.unit)).2.2.2.1,
                          (x.2.2.2.1.1, decN x.2.2.2.1.1 x.2.2.2.1.2), ())))))))))
      (Tree.leaf (Ex.exit (0 : Nat), some ((x.1.1, x.1.2.1, x.1.2.2.1, ()), x.2.1, x.2.2.1, (x.2.2.2.1.1, decN x.2.2.2.1.1 x.2.2.2.1.2), ())))) := by kernel_rfl
theorem rp_loop : LoopOK (mkC tys rparseG rparseL) rpD.spec (loopB 0 (bodyOf (fnOf Tryd.prog 59))) :=
  loopF2_ok (id := 0) (D := rpD) (fun x => congrFun rp_round x) rStp rMu (fun _ => rfl) rStp_ends fun (x : (Int × Int × List UInt8 × Unit) × DCmd × DCmd × (List UInt8 × Nat) × Unit) hp => by
    refine ⟨?_, fun hn => r_go hp hn⟩
    obtain ⟨⟨e, w, t, ⟨⟩⟩, c2, c4, ⟨y, pos⟩, ⟨⟩⟩ := x
    obtain ⟨h1, h2, h3, h4, h5, h6, h7⟩ := hp
    simp only at h1 h2 h3 h4 h5 h6 h7
    have ew : IntKind.wrap IntKind.i64 (w + 1) = w + 1 := i64_id (by omega) (by omega)
    have h4e := encR_four ((decL y pos).1 : Int)
    simp only [Tree.holds, rStp]
    rw [ew]
    refine ⟨fun hb => ⟨hb, fun hc => ⟨by omega, ?_⟩, fun hc => ⟨fun hw => ⟨fun _ => ⟨by decide, fun _ => ⟨by decide, fun _ => ⟨by decide, fun _ => ⟨by decide, nofun, fun _ => ?_⟩, nofun⟩, nofun⟩, nofun⟩, nofun⟩,
      fun hw => ⟨fun hw1 => ⟨fun hn => ?_, fun hn => ⟨?_, ?_⟩⟩, fun hw1 => ⟨⟨h6, h7⟩, fun hr => ?_, fun hr => ?_⟩⟩⟩⟩, fun hb => ?_⟩
    · rw [hb, hc]; rfl
    · rw [hb, hc, hw]
      unfold kUp
      cases wordK 4 == t <;> cases wordK 3 == t <;> cases wordK 2 == t <;> cases wordK 1 == t <;> rfl
    · rw [hb, hc, hw, hw1, hn]; rfl
    · cases h8 : (nparseF t).2 != (0 : Int) with
      | true => rw [h8] at hn; cases hn
      | false =>
        rw [h8] at hn
        have : ((elemsF (nparseF t).1 16).length : Int) = 1 := by simpa using hn
        omega
    · rw [hb, hc, hw, hw1, hn]; rfl
    · have hr' : isRet (rIn e c2 c4 t).1 = true := hr
      rw [hb, hc, hw, hw1, hr']; rfl
    · have hr' : isRet (rIn e c2 c4 t).1 = false := hr
      rw [hb, hc, hw, hw1, hr']; rfl
    · rw [hb]; rfl
theorem rparse_tree : (fun x : List UInt8 => evFn (mkC tys rparseG rparseL) (fnOf Tryd.prog 59) (resL [.str] x) cparseC2.res) =
  (fun x =>
    Tree.br (decide ((↑(List.length x) : Int) > (40 : Int))) (Tree.leaf (((0 : Int), (0 : Int), (0 : Int)), (4 : Int)))
      (Tree.need (List.length x + (1 : Nat) ≤ (4611686018427387904 : Nat))
        (Tree.need (rPre (((0 : Int), (0 : Int), [], PUnit.unit), ((0 : Int), (0 : Int), (0 : Int)), ((0 : Int), (0 : Int), (0 : Int)), (x ++ [(32 : UInt8)], (0 : Nat)), PUnit.unit))
          (Tree.br
            (isRet
              (runF rStp (rMu (((0 : Int), (0 : Int), [], PUnit.unit), ((0 : Int), (0 : Int), (0 : Int)), ((0 : Int), (0 : Int), (0 : Int)), (x ++ [(32 : UInt8)], (0 : Nat)), PUnit.unit) + (1 : Nat))
                  (((0 : Int), (0 : Int), [], PUnit.unit), ((0 : Int), (0 : Int), (0 : Int)), ((0 : Int), (0 : Int), (0 : Int)), (x ++ [(32 : UInt8)], (0 : Nat)), PUnit.unit)).1)
            (Tree.leaf
              ((runF rStp (rMu (((0 : Int), (0 : Int), [], PUnit.unit), ((0 : Int), (0 : Int), (0 : Int)), ((0 : Int), (0 : Int), (0 : Int)), (x ++ [(32 : UInt8)], (0 : Nat)), PUnit.unit) + (1 : Nat))
                        (((0 : Int), (0 : Int), [], PUnit.unit), ((0 : Int), (0 : Int), (0 : Int)), ((0 : Int), (0 : Int), (0 : Int)), (x ++ [(32 : UInt8)], (0 : Nat)), PUnit.unit)).2.2.1,
                (runF rStp (rMu (((0 : Int), (0 : Int), [], PUnit.unit), ((0 : Int), (0 : Int), (0 : Int)), ((0 : Int), (0 : Int), (0 : Int)), (x ++ [(32 : UInt8)], (0 : Nat)), PUnit.unit) + (1 : Nat))
                        (((0 : Int), (0 : Int), [], PUnit.unit), ((0 : Int), (0 : Int), (0 : Int)), ((0 : Int), (0 : Int), (0 : Int)), (x ++ [(32 : UInt8)], (0 : Nat)), PUnit.unit)).2.1.1))
            (Tree.br
              (bif
                  (cprintF
                        (runF rStp
                                  (rMu (((0 : Int), (0 : Int), [], PUnit.unit), ((0 : Int), (0 : Int), (0 : Int)), ((0 : Int), (0 : Int), (0 : Int)), (x ++ [(32 : UInt8)], (0 : Nat)), PUnit.unit) +
                                    (1 : Nat))
                                  (((0 : Int), (0 : Int), [], PUnit.unit), ((0 : Int), (0 : Int), (0 : Int)), ((0 : Int), (0 : Int), (0 : Int)), (x ++ [(32 : UInt8)], (0 : Nat)),
                                    PUnit.unit)).2.2.2.1).2 !=
                    (0 : Int) then
                true
              else
                !(cprintF
                        (runF rStp
                                  (rMu (((0 : Int), (0 : Int), [], PUnit.unit), ((0 : Int), (0 : Int), (0 : Int)), ((0 : Int), (0 : Int), (0 : Int)), (x ++ [(32 : UInt8)], (0 : Nat)), PUnit.unit) +
                                    (1 : Nat))
                                  (((0 : Int), (0 : Int), [], PUnit.unit), ((0 : Int), (0 : Int), (0 : Int)), ((0 : Int), (0 : Int), (0 : Int)), (x ++ [(32 : UInt8)], (0 : Nat)),
                                    PUnit.unit)).2.2.2.1).1 ==
                    x)
              (Tree.leaf (((0 : Int), (0 : Int), (0 : Int)), (3 : Int)))
              (Tree.leaf
                ((runF rStp (rMu (((0 : Int), (0 : Int), [], PUnit.unit), ((0 : Int), (0 : Int), (0 : Int)), ((0 : Int), (0 : Int), (0 : Int)), (x ++ [(32 : UInt8)], (0 : Nat)), PUnit.unit) + (1 : Nat))
                            (((0 : Int), (0 : Int), [], PUnit.unit), ((0 : Int), (0 : Int), (0 : Int)), ((0 : Int), (0 : Int), (0 : Int)), (x ++ [(32 : UInt8)], (0 : Nat)), PUnit.unit)).2.2.2.1,
                  (0 : Int)))))))) := by kernel_rfl
theorem rparseG_ok : CtrsOK Tryd.prog (fun f => lk f rparseG) := ctrs_cons rcp_ok (ctrs_cons rcw_ok (ctrs_cons rnparse_ok (ctrs_cons rcount_ok (ctrs_cons rlist_ok ctrs_nil))))
theorem rparse_ok : CtrOK Tryd.prog 59 cparseC2 :=
  fun_ok (G := rparseG) (Λ := rparseL) tysOK rparseG_ok mixed (by kernel_rfl) (by kernel_rfl) (by kernel_rfl) (by kernel_rfl) (lp_cons dg_loop (lp_cons (rounds_ok0 rfl rfl rfl (by kernel_rfl)) (lp_cons rp_loop lp_nil))) fun (x : List UInt8) hw hp => by
    show (evFn (mkC tys rparseG rparseL) (fnOf Tryd.prog 59) (resL [.str] x) cparseC2.res).holds (fun y => y = cparseF x)
    rw [congrFun rparse_tree x]
    simp only [Tree.holds]
    refine ⟨fun h => (cparse_long (of_decide_eq_true h)).symm, fun h => ?_⟩
    have hl : ¬ (x.length : Int) > 40 := of_decide_eq_false h
    refine ⟨by omega, ⟨by simp; omega, Nat.zero_le _, Nat.zero_le _, Int.le_refl _, Int.le_refl _, Int.le_refl _, by simp⟩, ?_⟩
    exact r_whole hl rfl
end Go.Ev.D
/- What is said of commands as texts answers true. -/
set_option linter.unusedVariables false
set_option linter.unusedSimpArgs false
namespace Go.Ev.D
open Go.Proofs
def awake37C : Ctr := { args := [], res := [.bool], pre := none, fn := fun (x : Unit) => true }
def awake37G : List (Nat × Ctr) := [(56, cprintC), (58, cparseC2), (60, crightC)]
theorem awake37_tree : (fun x : Unit => evFn (mkC tys awake37G [] true) (fnOf Tryd.prog 55) (resL awake37C.args x) awake37C.res) =
  (fun x => Tree.leaf true) := by kernel_rfl
theorem awake37_ok : CtrOK Tryd.prog 55 awake37C :=
  fun_okX true (G := awake37G) (Λ := []) tysOK (ctrs_cons cprint_ok (ctrs_cons cparse_ok (ctrs_cons cright_ok ctrs_nil))) mixed (by kernel_rfl) (by kernel_rfl) (by kernel_rfl) (by kernel_rfl) lp_nil fun (x : Unit) hw _ => by
    rw [congrFun awake37_tree x]
    exact holds_val (d := awake37C.fn x) (by kernel_rfl) (by simp [Tree.safe])
def shsaysG : List (Nat × Ctr) := [(56, cprintC), (57, cprintC), (58, cparseC2), (59, cparseC2), (60, crightC), (61, rcrC), (55, awake37C)]
theorem shsaysG_ok : CtrsOK Tryd.prog (fun f => lk f shsaysG) := ctrs_cons cprint_ok (ctrs_cons rcp_ok (ctrs_cons cparse_ok (ctrs_cons rparse_ok (ctrs_cons cright_ok (ctrs_cons rcr_ok (ctrs_cons awake37_ok ctrs_nil))))))
def shsaysC : Ctr := { args := [gCmd, .str], res := [.bool], pre := some (smallD [gCmd, .str]), fn := fun _ => true }
theorem shsays_tree : (fun x : DCmd × List UInt8 => evFn (mkC tys shsaysG []) (fnOf Tryd.prog 9) (resL shsaysC.args x) shsaysC.res) =
  (fun x =>
    Tree.br (decide ((↑(List.length x.2) : Int) > (300 : Int))) (Tree.leaf true)
      (Tree.leaf
        (bif
            bif
                bif bif bif geq GTy.bool (crightF x.1) (crightF x.1) then (cprintF x.1).1 == (cprintF x.1).1 else false then (cprintF x.1).2 == (cprintF x.1).2 else false then
                  geq (GTy.prod (GTy.int IntKind.i64) (GTy.prod (GTy.int IntKind.i64) (GTy.int IntKind.i64))) (cparseF x.2).1 (cparseF x.2).1
                else false then
              (cparseF x.2).2 == (cparseF x.2).2
            else false then
          true
        else false))) := by kernel_rfl
def shbackC : Ctr := { args := [gCmd, .str], res := [.bool], pre := some (smallD [gCmd, .str]), fn := fun _ => true }
theorem shback_tree : (fun x : DCmd × List UInt8 => evFn (mkC tys shsaysG []) (fnOf Tryd.prog 10) (resL shbackC.args x) shbackC.res) =
  (fun x =>
    Tree.br (decide ((↑(List.length x.2) : Int) > (300 : Int))) (Tree.leaf true)
      (Tree.br ((cprintF x.1).2 == (0 : Int))
        (Tree.br
          (bif (cparseF (cprintF x.1).1).2 != (0 : Int) then true else !geq (GTy.prod (GTy.int IntKind.i64) (GTy.prod (GTy.int IntKind.i64) (GTy.int IntKind.i64))) (cparseF (cprintF x.1).1).1 x.1)
          (Tree.leaf false)
          (Tree.br ((cparseF x.2).2 != (0 : Int))
            (Tree.leaf (bif geq (GTy.prod (GTy.int IntKind.i64) (GTy.prod (GTy.int IntKind.i64) (GTy.int IntKind.i64))) (cparseF x.2).1 ((0 : Int), (0 : Int), (0 : Int)) then true else false))
            (Tree.leaf (bif bif bif (cprintF (cparseF x.2).1).2 == (0 : Int) then (cprintF (cparseF x.2).1).1 == x.2 else false then crightF (cparseF x.2).1 else false then true else false))))
        (Tree.br ((cparseF x.2).2 != (0 : Int))
          (Tree.leaf (bif geq (GTy.prod (GTy.int IntKind.i64) (GTy.prod (GTy.int IntKind.i64) (GTy.int IntKind.i64))) (cparseF x.2).1 ((0 : Int), (0 : Int), (0 : Int)) then true else false))
          (Tree.leaf (bif bif bif (cprintF (cparseF x.2).1).2 == (0 : Int) then (cprintF (cparseF x.2).1).1 == x.2 else false then crightF (cparseF x.2).1 else false then true else false))))) := by kernel_rfl
theorem shsays_ok : CtrOK Tryd.prog 9 shsaysC :=
  fun_ok (G := shsaysG) (Λ := []) tysOK shsaysG_ok mixed (by kernel_rfl) (by kernel_rfl) (by kernel_rfl) (by kernel_rfl) lp_nil fun (x : DCmd × List UInt8) hw _ => by
    rw [congrFun shsays_tree x]
    have e : shsaysC.fn x = true := rfl
    have e1 : geq GTy.bool (crightF x.1) (crightF x.1) = true := geq_self .bool _ rfl
    have e2 : geq (GTy.prod (GTy.int IntKind.i64) (GTy.prod (GTy.int IntKind.i64) (GTy.int IntKind.i64))) (cparseF x.2).1 (cparseF x.2).1 = true := geq_self gCmd _ rfl
    rw [e, e1, e2]
    simp only [Tree.holds, beq_self_eq_true, cond_true]
    exact ⟨fun _ => rfl, fun _ => rfl⟩
theorem shback_ok : CtrOK Tryd.prog 10 shbackC :=
  fun_ok (G := shsaysG) (Λ := []) tysOK shsaysG_ok mixed (by kernel_rfl) (by kernel_rfl) (by kernel_rfl) (by kernel_rfl) lp_nil fun (x : DCmd × List UInt8) hw _ => by
    rw [congrFun shback_tree x]
    have e : shbackC.fn x = true := rfl
    have fin : ((((cparseF x.2).2 != (0 : Int)) = true → (bif geq (GTy.prod (GTy.int IntKind.i64) (GTy.prod (GTy.int IntKind.i64) (GTy.int IntKind.i64))) (cparseF x.2).1 ((0 : Int), (0 : Int), (0 : Int)) then true else false) = true) ∧
        (((cparseF x.2).2 != (0 : Int)) = false → (bif bif bif (cprintF (cparseF x.2).1).2 == (0 : Int) then (cprintF (cparseF x.2).1).1 == x.2 else false then crightF (cparseF x.2).1 else false then true else false) = true)) := by
      refine ⟨fun h => ?_, fun h => ?_⟩
      · rw [cparse_zero h]; rfl
      · have h0 : ((cparseF x.2).2 == (0 : Int)) = true := by
          rw [bne, Bool.not_eq_false'] at h
          exact h
        obtain ⟨h1, h2⟩ := cparse_back h0
        have h3 : cprintF (cparseF x.2).1 = (cprintT (cparseF x.2).1, 0) := by unfold cprintF; rw [h1]; rfl
        rw [h3, h1, h2]
        simp
    rw [e]
    simp only [Tree.holds]
    refine ⟨fun _ => rfl, fun _ => ⟨fun h => ⟨fun h2 => ?_, fun _ => fin⟩, fun _ => fin⟩⟩
    exfalso
    have hr := cprint_good h
    have h3 : cprintF x.1 = (cprintT x.1, 0) := by unfold cprintF; rw [hr]; rfl
    have e2 : geq (GTy.prod (GTy.int IntKind.i64) (GTy.prod (GTy.int IntKind.i64) (GTy.int IntKind.i64))) x.1 x.1 = true := geq_self gCmd _ rfl
    rw [h3] at h2
    simp only at h2
    rw [cparse_print hr] at h2
    simp only at h2
    rw [e2] at h2
    cases h2
end Go.Ev.D
