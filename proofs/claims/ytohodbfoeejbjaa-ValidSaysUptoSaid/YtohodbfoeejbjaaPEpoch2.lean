/- 'epoch.Bytes' and 'epoch.Read' keep their contracts. -/
import Derived.Test.YtohodbfoeejbjaaPPack
set_option linter.unusedVariables false
set_option linter.unusedSimpArgs false
namespace Go.Ev.P
open Go.Proofs

def bytesC : Ctr := { args := [gPair], res := [.str], pre := none, fn := fun (x : (Int × Int) × (Int × Int)) => pairB x }
def bytesG : List (Nat × Ctr) := [(72, numC)]
noncomputable def bytesL : List (Nat × LoopSpec) := [(0, rounds (mkC tys bytesG []) (loopB 0 (bodyOf (fnOf Try.prog 28))) [] [3, 10, 11] [] 3)]
theorem bytes_tree : (fun x : (Int × Int) × (Int × Int) => evFn (mkC tys bytesG bytesL) (fnOf Try.prog 28) (resL bytesC.args x) bytesC.res) =
  (fun x =>
    Tree.br true
      (Tree.need ((0 : Int) ≤ (0 : Int) ∧ (0 : Int) < (2 : Int))
        (Tree.need (List.length (numF (IntKind.wrap IntKind.u64 x.1.1) (4 : Int)) + List.length (numF (IntKind.wrap IntKind.u64 x.1.2) (4 : Int)) ≤ (4611686018427387904 : Nat))
          (Tree.need ((0 : Nat) + List.length (numF (IntKind.wrap IntKind.u64 x.1.1) (4 : Int) ++ numF (IntKind.wrap IntKind.u64 x.1.2) (4 : Int)) ≤ (4611686018427387904 : Nat))
            (Tree.br true
              (Tree.need ((0 : Int) ≤ (1 : Int) ∧ (1 : Int) < (2 : Int))
                (Tree.need (List.length (numF (IntKind.wrap IntKind.u64 x.2.1) (4 : Int)) + List.length (numF (IntKind.wrap IntKind.u64 x.2.2) (4 : Int)) ≤ (4611686018427387904 : Nat))
                  (Tree.need
                    (List.length ([] ++ (numF (IntKind.wrap IntKind.u64 x.1.1) (4 : Int) ++ numF (IntKind.wrap IntKind.u64 x.1.2) (4 : Int))) +
                        List.length (numF (IntKind.wrap IntKind.u64 x.2.1) (4 : Int) ++ numF (IntKind.wrap IntKind.u64 x.2.2) (4 : Int)) ≤
                      (4611686018427387904 : Nat))
                    (Tree.br false
                      (Tree.need ((0 : Int) ≤ (2 : Int) ∧ (2 : Int) < (2 : Int))
                        (Tree.need
                          (List.length (numF (IntKind.wrap IntKind.u64 (List.getD [x.1, x.2] (2 : Nat) ((0 : Int), (0 : Int))).1) (4 : Int)) +
                              List.length (numF (IntKind.wrap IntKind.u64 (List.getD [x.1, x.2] (2 : Nat) ((0 : Int), (0 : Int))).2) (4 : Int)) ≤
                            (4611686018427387904 : Nat))
                          (Tree.need
                            (List.length
                                  ([] ++ (numF (IntKind.wrap IntKind.u64 x.1.1) (4 : Int) ++ numF (IntKind.wrap IntKind.u64 x.1.2) (4 : Int)) ++
                                    (numF (IntKind.wrap IntKind.u64 x.2.1) (4 : Int) ++ numF (IntKind.wrap IntKind.u64 x.2.2) (4 : Int))) +
                                List.length
                                  (numF (IntKind.wrap IntKind.u64 (List.getD [x.1, x.2] (2 : Nat) ((0 : Int), (0 : Int))).1) (4 : Int) ++
                                    numF (IntKind.wrap IntKind.u64 (List.getD [x.1, x.2] (2 : Nat) ((0 : Int), (0 : Int))).2) (4 : Int)) ≤
                              (4611686018427387904 : Nat))
                            Tree.stuck)))
                      (Tree.leaf
                        ([] ++ (numF (IntKind.wrap IntKind.u64 x.1.1) (4 : Int) ++ numF (IntKind.wrap IntKind.u64 x.1.2) (4 : Int)) ++
                          (numF (IntKind.wrap IntKind.u64 x.2.1) (4 : Int) ++ numF (IntKind.wrap IntKind.u64 x.2.2) (4 : Int))))))))
              (Tree.leaf ([] ++ (numF (IntKind.wrap IntKind.u64 x.1.1) (4 : Int) ++ numF (IntKind.wrap IntKind.u64 x.1.2) (4 : Int))))))))
      (Tree.leaf [])) := by kernel_rfl
theorem bytes_ok : CtrOK Try.prog 28 bytesC :=
  fun_ok (G := bytesG) (Λ := bytesL) tysOK (ctrs_cons num_ok ctrs_nil) mixed (by kernel_rfl) (by kernel_rfl) (by kernel_rfl) (by kernel_rfl) (lp_cons (rounds_ok0 rfl rfl rfl (by kernel_rfl)) lp_nil) fun (x : (Int × Int) × (Int × Int)) hw _ => by
    rw [congrFun bytes_tree x]
    obtain ⟨⟨a, b⟩, ⟨c, d⟩⟩ := x
    obtain ⟨⟨ha, hb⟩, ⟨hc, hd⟩⟩ := hw
    simp only [wt, has_u32] at ha hb hc hd
    have ea : IntKind.u64.wrap a = a := u64_id (by omega) (by omega)
    have eb : IntKind.u64.wrap b = b := u64_id (by omega) (by omega)
    have ec : IntKind.u64.wrap c = c := u64_id (by omega) (by omega)
    have ed : IntKind.u64.wrap d = d := u64_id (by omega) (by omega)
    simp [Tree.holds, ea, eb, ec, ed, numF4, num4_len, bytesC, pairB]

def readC : Ctr := { args := [.str], res := [gPair, .str, .int .i64], pre := none, fn := fun (x : List UInt8) => readF x }
def readG : List (Nat × Ctr) := [(71, takeC)]
noncomputable def readL : List (Nat × LoopSpec) := [(0, rounds (mkC tys readG []) (loopB 0 (bodyOf (fnOf Try.prog 27))) [] [0, 2, 3, 4, 5, 16] [2, 5] 5)]
theorem read_tree : (fun x : List UInt8 => evFn (mkC tys readG readL) (fnOf Try.prog 27) (resL readC.args x) readC.res) =
  (fun x =>
    Tree.br (decide ((↑(List.length x) : Int) < (16 : Int))) (Tree.leaf ((((0 : Int), (0 : Int)), (0 : Int), (0 : Int)), [], (2 : Int)))
      (Tree.br true
        (Tree.br ((takeF x (4 : Int)).2.2 != (0 : Int)) (Tree.leaf ((((0 : Int), (0 : Int)), (0 : Int), (0 : Int)), [], (takeF x (4 : Int)).2.2))
          (Tree.need ((0 : Int) ≤ (0 : Int) ∧ (0 : Int) < (4 : Int))
            (Tree.br true
              (Tree.br ((takeF (takeF x (4 : Int)).2.1 (4 : Int)).2.2 != (0 : Int)) (Tree.leaf ((((0 : Int), (0 : Int)), (0 : Int), (0 : Int)), [], (takeF (takeF x (4 : Int)).2.1 (4 : Int)).2.2))
                (Tree.need ((0 : Int) ≤ (1 : Int) ∧ (1 : Int) < (4 : Int))
                  (Tree.br true
                    (Tree.br ((takeF (takeF (takeF x (4 : Int)).2.1 (4 : Int)).2.1 (4 : Int)).2.2 != (0 : Int))
                      (Tree.leaf ((((0 : Int), (0 : Int)), (0 : Int), (0 : Int)), [], (takeF (takeF (takeF x (4 : Int)).2.1 (4 : Int)).2.1 (4 : Int)).2.2))
                      (Tree.need ((0 : Int) ≤ (2 : Int) ∧ (2 : Int) < (4 : Int))
                        (Tree.br true
                          (Tree.br ((takeF (takeF (takeF (takeF x (4 : Int)).2.1 (4 : Int)).2.1 (4 : Int)).2.1 (4 : Int)).2.2 != (0 : Int))
                            (Tree.leaf ((((0 : Int), (0 : Int)), (0 : Int), (0 : Int)), [], (takeF (takeF (takeF (takeF x (4 : Int)).2.1 (4 : Int)).2.1 (4 : Int)).2.1 (4 : Int)).2.2))
                            (Tree.need ((0 : Int) ≤ (3 : Int) ∧ (3 : Int) < (4 : Int))
                              (Tree.br false
                                (Tree.br ((takeF (takeF (takeF (takeF (takeF x (4 : Int)).2.1 (4 : Int)).2.1 (4 : Int)).2.1 (4 : Int)).2.1 (4 : Int)).2.2 != (0 : Int))
                                  (Tree.leaf
                                    ((((0 : Int), (0 : Int)), (0 : Int), (0 : Int)), [], (takeF (takeF (takeF (takeF (takeF x (4 : Int)).2.1 (4 : Int)).2.1 (4 : Int)).2.1 (4 : Int)).2.1 (4 : Int)).2.2))
                                  (Tree.need ((0 : Int) ≤ (4 : Int) ∧ (4 : Int) < (4 : Int)) Tree.stuck))
                                (Tree.leaf
                                  (((IntKind.wrap IntKind.u32 (takeF x (4 : Int)).1, IntKind.wrap IntKind.u32 (takeF (takeF x (4 : Int)).2.1 (4 : Int)).1),
                                      IntKind.wrap IntKind.u32 (takeF (takeF (takeF x (4 : Int)).2.1 (4 : Int)).2.1 (4 : Int)).1,
                                      IntKind.wrap IntKind.u32 (takeF (takeF (takeF (takeF x (4 : Int)).2.1 (4 : Int)).2.1 (4 : Int)).2.1 (4 : Int)).1),
                                    (takeF (takeF (takeF (takeF x (4 : Int)).2.1 (4 : Int)).2.1 (4 : Int)).2.1 (4 : Int)).2.1, (0 : Int))))))
                          (Tree.leaf
                            (((IntKind.wrap IntKind.u32 (takeF x (4 : Int)).1, IntKind.wrap IntKind.u32 (takeF (takeF x (4 : Int)).2.1 (4 : Int)).1),
                                IntKind.wrap IntKind.u32 (takeF (takeF (takeF x (4 : Int)).2.1 (4 : Int)).2.1 (4 : Int)).1, (0 : Int)),
                              (takeF (takeF (takeF x (4 : Int)).2.1 (4 : Int)).2.1 (4 : Int)).2.1, (0 : Int))))))
                    (Tree.leaf
                      (((IntKind.wrap IntKind.u32 (takeF x (4 : Int)).1, IntKind.wrap IntKind.u32 (takeF (takeF x (4 : Int)).2.1 (4 : Int)).1), (0 : Int), (0 : Int)),
                        (takeF (takeF x (4 : Int)).2.1 (4 : Int)).2.1, (0 : Int))))))
              (Tree.leaf (((IntKind.wrap IntKind.u32 (takeF x (4 : Int)).1, (0 : Int)), (0 : Int), (0 : Int)), (takeF x (4 : Int)).2.1, (0 : Int))))))
        (Tree.leaf ((((0 : Int), (0 : Int)), (0 : Int), (0 : Int)), x, (0 : Int))))) := by kernel_rfl
theorem read_ok : CtrOK Try.prog 27 readC :=
  fun_ok (G := readG) (Λ := readL) tysOK (ctrs_cons take_ok ctrs_nil) mixed (by kernel_rfl) (by kernel_rfl) (by kernel_rfl) (by kernel_rfl) (lp_cons (rounds_ok0 rfl rfl rfl (by kernel_rfl)) lp_nil) fun (x : List UInt8) hw _ => by
    rw [congrFun read_tree x]
    simp only [readC, readF]
    by_cases h : (x.length : Int) < 16
    · have h' : decide ((x.length : Int) < 16) = true := by simpa using h
      simp only [Tree.holds, h']
      simp
    · have h' : decide ((x.length : Int) < 16) = false := by simpa using h
      have t0 := takeF4 (s := x) (by omega)
      have t1 := takeF4 (s := x.drop 4) (by rw [List.length_drop]; omega)
      have t2 := takeF4 (s := x.drop 8) (by rw [List.length_drop]; omega)
      have t3 := takeF4 (s := x.drop 12) (by rw [List.length_drop]; omega)
      simp only [List.drop_drop, Nat.reduceAdd] at t1 t2 t3
      simp [Tree.holds, h', t0, t1, t2, t3, big4_u32]
end Go.Ev.P
