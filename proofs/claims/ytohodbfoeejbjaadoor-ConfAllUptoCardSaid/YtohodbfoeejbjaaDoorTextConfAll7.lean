/- The library's sums, in the code's own numbers. -/
import Derived.Lib.SplitLaws
import Derived.Recover
import Derived.Lib.ParseIntBCases
import Derived.Lib.IndexMore
import Derived.Test.YtohodbfoeejbjaaDoorTextConfAll6

set_option linter.unusedVariables false
set_option linter.unusedSimpArgs false
namespace Go.Ev
/-! The sums, as the library's code forms them -/
def iA (x : Int) : Int := IntKind.wrap IntKind.u64 (bitsOp BinOp.and IntKind.u64 (Int.fdiv x (2 : Int)) (6148914691236517205 : Int) + bitsOp BinOp.and IntKind.u64 x (6148914691236517205 : Int))
def iB (x : Int) : Int := IntKind.wrap IntKind.u64 (bitsOp BinOp.and IntKind.u64 (Int.fdiv x (4 : Int)) (3689348814741910323 : Int) + bitsOp BinOp.and IntKind.u64 x (3689348814741910323 : Int))
def iC (x : Int) : Int := bitsOp BinOp.and IntKind.u64 (IntKind.wrap IntKind.u64 (Int.fdiv x (16 : Int) + x)) (1085102592571150095 : Int)
def iD (x : Int) : Int := IntKind.wrap IntKind.u64 (x + Int.fdiv x (256 : Int))
def iE (x : Int) : Int := IntKind.wrap IntKind.u64 (x + Int.fdiv x (65536 : Int))
def iF (x : Int) : Int := IntKind.wrap IntKind.u64 (x + Int.fdiv x (4294967296 : Int))
def onesI (x : Int) : Int := bitsOp BinOp.and IntKind.i64 (IntKind.wrap IntKind.i64 (iF (iE (iD (iC (iB (iA x))))))) (127 : Int)
theorem fdiv_nat (m k : Nat) : Int.fdiv (m : Int) (k : Int) = ((m / k : Nat) : Int) := by
  rw [Int.fdiv_eq_ediv_of_nonneg _ (by omega)]
  exact (Int.natCast_ediv m k).symm
theorem and_u64 {m k : Nat} (hm : m < 18446744073709551616) (hk : k < 18446744073709551616) : bitsOp BinOp.and IntKind.u64 (m : Int) (k : Int) = ((m &&& k : Nat) : Int) := by
  have h := Nat.and_le_left (n := m) (m := k)
  rw [and_nat (k := .u64) (by omega) (by show (m : Int) < 18446744073709551616; omega) (by omega) (by show (k : Int) < 18446744073709551616; omega)]
  · rw [Int.toNat_natCast, Int.toNat_natCast]
  · rw [Int.toNat_natCast, Int.toNat_natCast]
    exact (has_u64 _).2 ⟨by omega, by omega⟩
theorem wrap64_nat {m : Nat} (hm : m < 18446744073709551616) : IntKind.wrap IntKind.u64 (m : Int) = (m : Int) := u64_id (by omega) (by omega)

theorem iA_nat {m : Nat} (hm : m < 65536) : iA (m : Int) = (pA m : Int) ∧ pA m < 98304 := by
  have h1 := Nat.and_le_left (n := m / 2) (m := 6148914691236517205)
  have h2 := Nat.and_le_left (n := m) (m := 6148914691236517205)
  have hb : pA m < 98304 := by unfold pA; omega
  refine ⟨?_, hb⟩
  unfold iA
  rw [show (2 : Int) = ((2 : Nat) : Int) from rfl, fdiv_nat, show (6148914691236517205 : Int) = ((6148914691236517205 : Nat) : Int) from rfl, and_u64 (by omega) (by omega), and_u64 (by omega) (by omega), ← Int.natCast_add]
  exact wrap64_nat (by show pA m < _; omega)
theorem iB_nat {m : Nat} (hm : m < 98304) : iB (m : Int) = (pB m : Int) ∧ pB m < 131072 := by
  have h1 := Nat.and_le_left (n := m / 4) (m := 3689348814741910323)
  have h2 := Nat.and_le_left (n := m) (m := 3689348814741910323)
  have hb : pB m < 131072 := by unfold pB; omega
  refine ⟨?_, hb⟩
  unfold iB
  rw [show (4 : Int) = ((4 : Nat) : Int) from rfl, fdiv_nat, show (3689348814741910323 : Int) = ((3689348814741910323 : Nat) : Int) from rfl, and_u64 (by omega) (by omega), and_u64 (by omega) (by omega), ← Int.natCast_add]
  exact wrap64_nat (by show pB m < _; omega)
theorem iC_nat {m : Nat} (hm : m < 131072) : iC (m : Int) = (pC m : Int) ∧ pC m < 262144 := by
  have h1 := Nat.and_le_left (n := m / 16 + m) (m := 1085102592571150095)
  have hb : pC m < 262144 := by unfold pC; omega
  refine ⟨?_, hb⟩
  unfold iC
  rw [show (16 : Int) = ((16 : Nat) : Int) from rfl, fdiv_nat, ← Int.natCast_add, wrap64_nat (by omega), show (1085102592571150095 : Int) = ((1085102592571150095 : Nat) : Int) from rfl, and_u64 (by omega) (by omega)]
  rfl
theorem iD_nat {m : Nat} (hm : m < 262144) : iD (m : Int) = (pD m : Int) ∧ pD m < 524288 := by
  have hb : pD m < 524288 := by unfold pD; omega
  refine ⟨?_, hb⟩
  unfold iD
  rw [show (256 : Int) = ((256 : Nat) : Int) from rfl, fdiv_nat, ← Int.natCast_add]
  exact wrap64_nat (by show pD m < _; omega)
theorem iE_nat {m : Nat} (hm : m < 524288) : iE (m : Int) = (pE m : Int) ∧ pE m < 1048576 := by
  have hb : pE m < 1048576 := by unfold pE; omega
  refine ⟨?_, hb⟩
  unfold iE
  rw [show (65536 : Int) = ((65536 : Nat) : Int) from rfl, fdiv_nat, ← Int.natCast_add]
  exact wrap64_nat (by show pE m < _; omega)
theorem iF_nat {m : Nat} (hm : m < 1048576) : iF (m : Int) = (pF m : Int) ∧ pF m < 2097152 := by
  have hb : pF m < 2097152 := by unfold pF; omega
  refine ⟨?_, hb⟩
  unfold iF
  rw [show (4294967296 : Int) = ((4294967296 : Nat) : Int) from rfl, fdiv_nat, ← Int.natCast_add]
  exact wrap64_nat (by show pF m < _; omega)
theorem ones_nat {m : Nat} (hm : m < 65536) : onesI (m : Int) = (pcN m : Int) := by
  obtain ⟨a1, a2⟩ := iA_nat hm
  obtain ⟨b1, b2⟩ := iB_nat a2
  obtain ⟨c1, c2⟩ := iC_nat b2
  obtain ⟨d1, d2⟩ := iD_nat c2
  obtain ⟨e1, e2⟩ := iE_nat d2
  obtain ⟨f1, f2⟩ := iF_nat e2
  unfold onesI pcN
  rw [a1, b1, c1, d1, e1, f1]
  generalize pF (pE (pD (pC (pB (pA m))))) = k at f2
  rw [show IntKind.wrap IntKind.i64 (k : Int) = (k : Int) from i64_id (by omega) (by omega), show (127 : Int) = ((127 : Nat) : Int) from rfl]
  have h := Nat.and_le_left (n := k) (m := 127)
  rw [and_nat (k := .i64) (by omega) (by show (k : Int) < 18446744073709551616; omega) (by omega) (by decide), Int.toNat_natCast, Int.toNat_natCast]
  rw [Int.toNat_natCast, Int.toNat_natCast]
  exact (has_i64 _).2 ⟨by omega, by omega⟩
/-- What the sums come to: how many are in the set. -/
theorem ones_len {x : Int} (h0 : 0 ≤ x) (h1 : x < 65536) : onesI x = ((elemsF x 16).length : Int) := by
  obtain ⟨m, rfl⟩ : ∃ m : Nat, x = (m : Int) := ⟨x.toNat, by omega⟩
  rw [ones_nat (by omega), pc_all (by omega)]
  exact (elems_cnt 16 (Nat.le_refl _)).symm
/-- The low sixteen letters alone. -/
theorem and_lowI {x : Int} (h0 : 0 ≤ x) (h1 : x < 65536) : bitsOp BinOp.and IntKind.i64 x (65535 : Int) = x := by
  have := and_low (s := x) 16 (by decide)
  have h2 : bitsOp BinOp.and IntKind.i64 x (65535 : Int) = x % ((2 ^ 16 : Nat) : Int) := this
  rw [h2]
  have h3 : ((2 ^ 16 : Nat) : Int) = 65536 := by decide
  rw [h3]
  omega
end Go.Ev
/- How many are in a set: the library's way. -/
set_option linter.unusedVariables false
set_option linter.unusedSimpArgs false
namespace Go.Ev.D
open Go.Proofs
def lowPre (x : Int) : Prop := 0 ≤ x ∧ x < 65536
def ones64C : Ctr := { args := [.int .u64], res := [.int .i64], pre := some lowPre, fn := fun (x : Int) => ((elemsF x 16).length : Int) }
theorem ones64_tree : (fun x : Int => evFn (mkC tys [] []) (fnOf Tryd.prog 156) (resL [.int .u64] x) [.int .i64]) =
  (fun x =>
    Tree.leaf
      (bitsOp BinOp.and IntKind.i64
        (IntKind.wrap IntKind.i64
          (IntKind.wrap IntKind.u64
            (IntKind.wrap IntKind.u64
                (IntKind.wrap IntKind.u64
                    (bitsOp BinOp.and IntKind.u64
                        (IntKind.wrap IntKind.u64
                          (Int.fdiv
                              (IntKind.wrap IntKind.u64
                                (bitsOp BinOp.and IntKind.u64
                                    (Int.fdiv
                                      (IntKind.wrap IntKind.u64
                                        (bitsOp BinOp.and IntKind.u64 (Int.fdiv x (2 : Int)) (6148914691236517205 : Int) + bitsOp BinOp.and IntKind.u64 x (6148914691236517205 : Int)))
                                      (4 : Int))
                                    (3689348814741910323 : Int) +
                                  bitsOp BinOp.and IntKind.u64
                                    (IntKind.wrap IntKind.u64
                                      (bitsOp BinOp.and IntKind.u64 (Int.fdiv x (2 : Int)) (6148914691236517205 : Int) + bitsOp BinOp.and IntKind.u64 x (6148914691236517205 : Int)))
                                    (3689348814741910323 : Int)))
                              (16 : Int) +
                            IntKind.wrap IntKind.u64
                              (bitsOp BinOp.and IntKind.u64
                                  (Int.fdiv
                                    (IntKind.wrap IntKind.u64
                                      (bitsOp BinOp.and IntKind.u64 (Int.fdiv x (2 : Int)) (6148914691236517205 : Int) + bitsOp BinOp.and IntKind.u64 x (6148914691236517205 : Int)))
                                    (4 : Int))
                                  (3689348814741910323 : Int) +
                                bitsOp BinOp.and IntKind.u64
                                  (IntKind.wrap IntKind.u64
                                    (bitsOp BinOp.and IntKind.u64 (Int.fdiv x (2 : Int)) (6148914691236517205 : Int) + bitsOp BinOp.and IntKind.u64 x (6148914691236517205 : Int)))
                                  (3689348814741910323 : Int))))
                        (1085102592571150095 : Int) +
                      Int.fdiv
                        (bitsOp BinOp.and IntKind.u64
                          (IntKind.wrap IntKind.u64
                            (Int.fdiv
                                (IntKind.wrap IntKind.u64
                                  (bitsOp BinOp.and IntKind.u64
                                      (Int.fdiv
                                        (IntKind.wrap IntKind.u64
                                          (bitsOp BinOp.and IntKind.u64 (Int.fdiv x (2 : Int)) (6148914691236517205 : Int) + bitsOp BinOp.and IntKind.u64 x (6148914691236517205 : Int)))
                                        (4 : Int))
                                      (3689348814741910323 : Int) +
                                    bitsOp BinOp.and IntKind.u64
                                      (IntKind.wrap IntKind.u64
                                        (bitsOp BinOp.and IntKind.u64 (Int.fdiv x (2 : Int)) (6148914691236517205 : Int) + bitsOp BinOp.and IntKind.u64 x (6148914691236517205 : Int)))
                                      (3689348814741910323 : Int)))
                                (16 : Int) +
                              IntKind.wrap IntKind.u64
                                (bitsOp BinOp.and IntKind.u64
                                    (Int.fdiv
                                      (IntKind.wrap IntKind.u64
                                        (bitsOp BinOp.and IntKind.u64 (Int.fdiv x (2 : Int)) (6148914691236517205 : Int) + bitsOp BinOp.and IntKind.u64 x (6148914691236517205 : Int)))
                                      (4 : Int))
                                    (3689348814741910323 : Int) +
                                  bitsOp BinOp.and IntKind.u64
                                    (IntKind.wrap IntKind.u64
                                      (bitsOp BinOp.and IntKind.u64 (Int.fdiv x (2 : Int)) (6148914691236517205 : Int) + bitsOp BinOp.and IntKind.u64 x (6148914691236517205 : Int)))
                                    (3689348814741910323 : Int))))
                          (1085102592571150095 : Int))
                        (256 : Int)) +
                  Int.fdiv
                    (IntKind.wrap IntKind.u64
                      (bitsOp BinOp.and IntKind.u64
                          (IntKind.wrap IntKind.u64
                            (Int.fdiv
                                (IntKind.wrap IntKind.u64
                                  (bitsOp BinOp.and IntKind.u64
                                      (Int.fdiv
                                        (IntKind.wrap IntKind.u64
                                          (bitsOp BinOp.and IntKind.u64 (Int.fdiv x (2 : Int)) (6148914691236517205 : Int) + bitsOp BinOp.and IntKind.u64 x (6148914691236517205 : Int)))
                                        (4 : Int))
                                      (3689348814741910323 : Int) +
                                    bitsOp BinOp.and IntKind.u64
                                      (IntKind.wrap IntKind.u64
                                        (bitsOp BinOp.and IntKind.u64 (Int.fdiv x (2 : Int)) (6148914691236517205 : Int) + bitsOp BinOp.and IntKind.u64 x (6148914691236517205 : Int)))
                                      (3689348814741910323 : Int)))
                                (16 : Int) +
                              IntKind.wrap IntKind.u64
                                (bitsOp BinOp.and IntKind.u64
                                    (Int.fdiv
                                      (IntKind.wrap IntKind.u64
                                        (bitsOp BinOp.and IntKind.u64 (Int.fdiv x (2 : Int)) (6148914691236517205 : Int) + bitsOp BinOp.and IntKind.u64 x (6148914691236517205 : Int)))
                                      (4 : Int))
                                    (3689348814741910323 : Int) +
                                  bitsOp BinOp.and IntKind.u64
                                    (IntKind.wrap IntKind.u64
                                      (bitsOp BinOp.and IntKind.u64 (Int.fdiv x (2 : Int)) (6148914691236517205 : Int) + bitsOp BinOp.and IntKind.u64 x (6148914691236517205 : Int)))
                                    (3689348814741910323 : Int))))
                          (1085102592571150095 : Int) +
                        Int.fdiv
                          (bitsOp BinOp.and IntKind.u64
                            (IntKind.wrap IntKind.u64
                              (Int.fdiv
                                  (IntKind.wrap IntKind.u64
                                    (bitsOp BinOp.and IntKind.u64
                                        (Int.fdiv
                                          (IntKind.wrap IntKind.u64
                                            (bitsOp BinOp.and IntKind.u64 (Int.fdiv x (2 : Int)) (6148914691236517205 : Int) + bitsOp BinOp.and IntKind.u64 x (6148914691236517205 : Int)))
                                          (4 : Int))
                                        (3689348814741910323 : Int) +
                                      bitsOp BinOp.and IntKind.u64
                                        (IntKind.wrap IntKind.u64
                                          (bitsOp BinOp.and IntKind.u64 (Int.fdiv x (2 : Int)) (6148914691236517205 : Int) + bitsOp BinOp.and IntKind.u64 x (6148914691236517205 : Int)))
                                        (3689348814741910323 : Int)))
                                  (16 : Int) +
                                IntKind.wrap IntKind.u64
                                  (bitsOp BinOp.and IntKind.u64
                                      (Int.fdiv
                                        (IntKind.wrap IntKind.u64
                                          (bitsOp BinOp.and IntKind.u64 (Int.fdiv x (2 : Int)) (6148914691236517205 : Int) + bitsOp BinOp.and IntKind.u64 x (6148914691236517205 : Int)))
                                        (4 : Int))
                                      (3689348814741910323 : Int) +
                                    bitsOp BinOp.and IntKind.u64
                                      (IntKind.wrap IntKind.u64
                                        (bitsOp BinOp.and IntKind.u64 (Int.fdiv x (2 : Int)) (6148914691236517205 : Int) + bitsOp BinOp.and IntKind.u64 x (6148914691236517205 : Int)))
                                      (3689348814741910323 : Int))))
                            (1085102592571150095 : Int))
                          (256 : Int)))
                    (65536 : Int)) +
              Int.fdiv
                (IntKind.wrap IntKind.u64
                  (IntKind.wrap IntKind.u64
                      (bitsOp BinOp.and IntKind.u64
                          (IntKind.wrap IntKind.u64
                            (Int.fdiv
                                (IntKind.wrap IntKind.u64
                                  (bitsOp BinOp.and IntKind.u64
                                      (Int.fdiv
                                        (IntKind.wrap IntKind.u64
                                          (bitsOp BinOp.and IntKind.u64 (Int.fdiv x (2 : Int)) (6148914691236517205 : Int) + bitsOp BinOp.and IntKind.u64 x (6148914691236517205 : Int)))
                                        (4 : Int))
                                      (3689348814741910323 : Int) +
                                    bitsOp BinOp.and IntKind.u64
                                      (IntKind.wrap IntKind.u64
                                        (bitsOp BinOp.and IntKind.u64 (Int.fdiv x (2 : Int)) (6148914691236517205 : Int) + bitsOp BinOp.and IntKind.u64 x (6148914691236517205 : Int)))
                                      (3689348814741910323 : Int)))
                                (16 : Int) +
                              IntKind.wrap IntKind.u64
                                (bitsOp BinOp.and IntKind.u64
                                    (Int.fdiv
                                      (IntKind.wrap IntKind.u64
                                        (bitsOp BinOp.and IntKind.u64 (Int.fdiv x (2 : Int)) (6148914691236517205 : Int) + bitsOp BinOp.and IntKind.u64 x (6148914691236517205 : Int)))
                                      (4 : Int))
                                    (3689348814741910323 : Int) +
                                  bitsOp BinOp.and IntKind.u64
                                    (IntKind.wrap IntKind.u64
                                      (bitsOp BinOp.and IntKind.u64 (Int.fdiv x (2 : Int)) (6148914691236517205 : Int) + bitsOp BinOp.and IntKind.u64 x (6148914691236517205 : Int)))
                                    (3689348814741910323 : Int))))
                          (1085102592571150095 : Int) +
                        Int.fdiv
                          (bitsOp BinOp.and IntKind.u64
                            (IntKind.wrap IntKind.u64
                              (Int.fdiv
                                  (IntKind.wrap IntKind.u64
                                    (bitsOp BinOp.and IntKind.u64
                                        (Int.fdiv
                                          (IntKind.wrap IntKind.u64
                                            (bitsOp BinOp.and IntKind.u64 (Int.fdiv x (2 : Int)) (6148914691236517205 : Int) + bitsOp BinOp.and IntKind.u64 x (6148914691236517205 : Int)))
                                          (4 : Int))
                                        (3689348814741910323 : Int) +
                                      bitsOp BinOp.and IntKind.u64
                                        (IntKind.wrap IntKind.u64
                                          (bitsOp BinOp.and IntKind.u64 (Int.fdiv x (2 : Int)) (6148914691236517205 : Int) + bitsOp BinOp.and IntKind.u64 x (6148914691236517205 : Int)))
                                        (3689348814741910323 : Int)))
                                  (16 : Int) +
                                IntKind.wrap IntKind.u64
                                  (bitsOp BinOp.and IntKind.u64
                                      (Int.fdiv
                                        (IntKind.wrap IntKind.u64
                                          (bitsOp BinOp.and IntKind.u64 (Int.fdiv x (2 : Int)) (6148914691236517205 : Int) + bitsOp BinOp.and IntKind.u64 x (6148914691236517205 : Int)))
                                        (4 : Int))
                                      (3689348814741910323 : Int) +
                                    bitsOp BinOp.and IntKind.u64
                                      (IntKind.wrap IntKind.u64
                                        (bitsOp BinOp.and IntKind.u64 (Int.fdiv x (2 : Int)) (6148914691236517205 : Int) + bitsOp BinOp.and IntKind.u64 x (6148914691236517205 : Int)))
                                      (3689348814741910323 : Int))))
                            (1085102592571150095 : Int))
                          (256 : Int)) +
                    Int.fdiv
                      (IntKind.wrap IntKind.u64
                        (bitsOp BinOp.and IntKind.u64
                            (IntKind.wrap IntKind.u64
                              (Int.fdiv
                                  (IntKind.wrap IntKind.u64
                                    (bitsOp BinOp.and IntKind.u64
                                        (Int.fdiv
                                          (IntKind.wrap IntKind.u64
                                            (bitsOp BinOp.and IntKind.u64 (Int.fdiv x (2 : Int)) (6148914691236517205 : Int) + bitsOp BinOp.and IntKind.u64 x (6148914691236517205 : Int)))
                                          (4 : Int))
                                        (3689348814741910323 : Int) +
                                      bitsOp BinOp.and IntKind.u64
                                        (IntKind.wrap IntKind.u64
                                          (bitsOp BinOp.and IntKind.u64 (Int.fdiv x (2 : Int)) (6148914691236517205 : Int) + bitsOp BinOp.and IntKind.u64 x (6148914691236517205 : Int)))
                                        (3689348814741910323 : Int)))
                                  (16 : Int) +
                                IntKind.wrap IntKind.u64
                                  (bitsOp BinOp.and IntKind.u64
                                      (Int.fdiv
                                        (IntKind.wrap IntKind.u64
                                          (bitsOp BinOp.and IntKind.u64 (Int.fdiv x (2 : Int)) (6148914691236517205 : Int) + bitsOp BinOp.and IntKind.u64 x (6148914691236517205 : Int)))
                                        (4 : Int))
                                      (3689348814741910323 : Int) +
                                    bitsOp BinOp.and IntKind.u64
                                      (IntKind.wrap IntKind.u64
                                        (bitsOp BinOp.and IntKind.u64 (Int.fdiv x (2 : Int)) (6148914691236517205 : Int) + bitsOp BinOp.and IntKind.u64 x (6148914691236517205 : Int)))
                                      (3689348814741910323 : Int))))
                            (1085102592571150095 : Int) +
                          Int.fdiv
                            (bitsOp BinOp.and IntKind.u64
                              (IntKind.wrap IntKind.u64
                                (Int.fdiv
                                    (IntKind.wrap IntKind.u64
                                      (bitsOp BinOp.and IntKind.u64
                                          (Int.fdiv
                                            (IntKind.wrap IntKind.u64
                                              (bitsOp BinOp.and IntKind.u64 (Int.fdiv x (2 : Int)) (6148914691236517205 : Int) + bitsOp BinOp.and IntKind.u64 x (6148914691236517205 : Int)))
                                            (4 : Int))
                                          (3689348814741910323 : Int) +
                                        bitsOp BinOp.and IntKind.u64
                                          (IntKind.wrap IntKind.u64
                                            (bitsOp BinOp.and IntKind.u64 (Int.fdiv x (2 : Int)) (6148914691236517205 : Int) + bitsOp BinOp.and IntKind.u64 x (6148914691236517205 : Int)))
                                          (3689348814741910323 : Int)))
                                    (16 : Int) +
                                  IntKind.wrap IntKind.u64
                                    (bitsOp BinOp.and IntKind.u64
                                        (Int.fdiv
                                          (IntKind.wrap IntKind.u64
                                            (bitsOp BinOp.and IntKind.u64 (Int.fdiv x (2 : Int)) (6148914691236517205 : Int) + bitsOp BinOp.and IntKind.u64 x (6148914691236517205 : Int)))
                                          (4 : Int))
                                        (3689348814741910323 : Int) +
                                      bitsOp BinOp.and IntKind.u64
                                        (IntKind.wrap IntKind.u64
                                          (bitsOp BinOp.and IntKind.u64 (Int.fdiv x (2 : Int)) (6148914691236517205 : Int) + bitsOp BinOp.and IntKind.u64 x (6148914691236517205 : Int)))
                                        (3689348814741910323 : Int))))
                              (1085102592571150095 : Int))
                            (256 : Int)))
                      (65536 : Int)))
                (4294967296 : Int))))
        (127 : Int))) := by kernel_rfl
theorem ones64_ok : CtrOK Tryd.prog 156 ones64C :=
  fun_ok (G := []) (Λ := []) tysOK ctrs_nil mixed (by kernel_rfl) (by kernel_rfl) (by kernel_rfl) (by kernel_rfl) lp_nil fun (x : Int) hw hp => by
    have hx : lowPre x := hp lowPre rfl
    show (evFn (mkC tys [] []) (fnOf Tryd.prog 156) (resL [.int .u64] x) [.int .i64]).holds (fun y => y = ((elemsF x 16).length : Int))
    rw [congrFun ones64_tree x]
    exact ones_len hx.1 hx.2
def ones0C : Ctr := { args := [.int .u64], res := [.int .i64], pre := some lowPre, fn := fun (x : Int) => ((elemsF x 16).length : Int) }
def onesG : List (Nat × Ctr) := [(156, ones64C)]
theorem ones0_tree : (fun x : Int => evFn (mkC tys onesG []) (fnOf Tryd.prog 136) (resL [.int .u64] x) [.int .i64]) =
  (fun x => Tree.br false Tree.stuck (Tree.need (lowPre x) (Tree.leaf (↑(List.length (elemsF x (16 : Nat))) : Int)))) := by kernel_rfl
theorem ones0_ok : CtrOK Tryd.prog 136 ones0C :=
  fun_ok (G := onesG) (Λ := []) tysOK (ctrs_cons ones64_ok ctrs_nil) mixed (by kernel_rfl) (by kernel_rfl) (by kernel_rfl) (by kernel_rfl) lp_nil fun (x : Int) hw hp => by
    have hx : lowPre x := hp lowPre rfl
    show (evFn (mkC tys onesG []) (fnOf Tryd.prog 136) (resL [.int .u64] x) [.int .i64]).holds (fun y => y = ((elemsF x 16).length : Int))
    rw [congrFun ones0_tree x]
    simp only [Tree.holds]
    simp [hx]
def ncountC : Ctr := { args := [.int .i64], res := [.int .i64], pre := some lowPre, fn := fun (x : Int) => ((elemsF x 16).length : Int) }
def ncountG : List (Nat × Ctr) := [(136, ones0C)]
theorem ncount_tree : (fun x : Int => evFn (mkC tys ncountG []) (fnOf Tryd.prog 87) (resL [.int .i64] x) [.int .i64]) =
  (fun x =>
    Tree.need (lowPre (IntKind.wrap IntKind.u64 (bitsOp BinOp.and IntKind.i64 x (65535 : Int))))
      (Tree.leaf (↑(List.length (elemsF (IntKind.wrap IntKind.u64 (bitsOp BinOp.and IntKind.i64 x (65535 : Int))) (16 : Nat))) : Int))) := by kernel_rfl
theorem ncount_ok : CtrOK Tryd.prog 87 ncountC :=
  fun_ok (G := ncountG) (Λ := []) tysOK (ctrs_cons ones0_ok ctrs_nil) mixed (by kernel_rfl) (by kernel_rfl) (by kernel_rfl) (by kernel_rfl) lp_nil fun (x : Int) hw hp => by
    have hx : lowPre x := hp lowPre rfl
    show (evFn (mkC tys ncountG []) (fnOf Tryd.prog 87) (resL [.int .i64] x) [.int .i64]).holds (fun y => y = ((elemsF x 16).length : Int))
    rw [congrFun ncount_tree x]
    have e1 := and_lowI hx.1 hx.2
    have e2 : IntKind.wrap IntKind.u64 x = x := u64_id hx.1 (by have := hx.2; omega)
    simp only [Tree.holds]
    rw [e1, e2]
    exact ⟨hx, rfl⟩
end Go.Ev.D
/- Words and numbers of a text, round by round. -/
set_option linter.unusedVariables false
set_option linter.unusedSimpArgs false
namespace Go.Ev
/-! Numbers -/
def badD (top r n : Int) : Bool := bif (bif decide (r < 48) then true else decide (r > 57)) then true else decide (n > top)
theorem badD_eq (top r n : Int) : badD top r n = (bif decide (r < 48) then true else bif decide (r > 57) then true else decide (n > top)) := by
  unfold badD
  cases decide (r < 48) <;> rfl
theorem badD_no {top r n : Int} (h : badD top r n = false) : 48 ≤ r ∧ r ≤ 57 ∧ n ≤ top := by
  unfold badD at h
  by_cases h1 : r < 48
  · rw [decide_eq_true h1] at h; cases h
  · by_cases h2 : r > 57
    · rw [decide_eq_false h1, decide_eq_true h2] at h; cases h
    · by_cases h3 : n > top
      · rw [decide_eq_false h1, decide_eq_false h2, decide_eq_true h3] at h; cases h
      · omega
/-! Words -/
theorem take_more {s : List UInt8} {i : Nat} (h : i < s.length) : s.take (i + 1) = s.take i ++ [s.getD i 0] := by
  rw [List.take_add_one]
  simp [List.getD, h]
end Go.Ev
/- Configurations out of texts, line by line, in plain Lean. -/
set_option linter.unusedVariables false
set_option linter.unusedSimpArgs false
namespace Go.Ev
/-- A number's first letter is 0, and there are more. -/
def lzF (s : List UInt8) : Bool := bif ((s.getD 0 0).toNat : Int) == 48 then decide ((s.length : Int) > 1) else false
def numP (s : List UInt8) : Int := match numGo 1073741824 s 0 with
  | none => -1
  | some n => bif (bif s == [] then true else lzF s) then -1 else n
def nodeBad (s : List UInt8) : Bool := bif (nparseF s).2 != (0 : Int) then true else ((elemsF (nparseF s).1 16).length : Int) != (1 : Int)
def nodeP (s : List UInt8) : Int := lowestF (nparseF s).1
def wNode : List UInt8 := [110, 111, 100, 101]
def wRules : List UInt8 := [114, 117, 108, 101, 115]
def wLink : List UInt8 := [108, 105, 110, 107]
def isLine (w : List (List UInt8)) (k : List UInt8) (n : Int) : Bool := bif w.getD 0 [] == k then (w.length : Int) == n else false
def rulesP (w : List (List UInt8)) : DRules := (numP (w.getD 1 []), numP (w.getD 2 []), numP (w.getD 3 []), numP (w.getD 4 []))
def setP (c : DConf) (w : List (List UInt8)) : DCosts × Int := csetF c.2.2 (nodeP (w.getD 1 [])) (IntKind.wrap IntKind.u32 (numP (w.getD 2 [])))
def negP (n : Int) : Bool := decide (n < 0)
/-- Is a line none? -/
def lineBad (c : DConf) (w : List (List UInt8)) : Bool :=
  bif isLine w wNode 2 then nodeBad (w.getD 1 [])
  else bif isLine w wRules 5 then bif negP (rulesP w).1 then true else bif negP (rulesP w).2.1 then true else bif negP (rulesP w).2.2.1 then true else negP (rulesP w).2.2.2
  else bif isLine w wLink 3 then bif (bif nodeBad (w.getD 1 []) then true else negP (numP (w.getD 2 []))) then true else bif decide (numP (w.getD 2 []) > 65536) then true else (setP c w).2 != (0 : Int)
  else true
/-- What a line makes of it. -/
def lineN (c : DConf) (w : List (List UInt8)) : DConf :=
  bif isLine w wNode 2 then (nodeP (w.getD 1 []), c.2)
  else bif isLine w wRules 5 then (c.1, rulesP w, c.2.2)
  else (c.1, c.2.1, (setP c w).1)
abbrev zeroConf : DConf := (0, (0, 0, 0, 0), 0, List.replicate 16 0)
/-! A number, letter by letter -/
abbrev MnS := (List UInt8 × Int × Int × Int × Unit) × Unit
def mnB (x : MnS) : Int := ((x.1.1.getD x.1.2.2.2.1.toNat 0).toNat : Int)
def mnStp (v : Value) (x : MnS) : Ex × MnS :=
  bif decide (x.1.2.2.2.1 < x.1.2.2.1) then
    bif badD 1073741824 (mnB x) x.1.2.1 then (.die v, x)
    else (.normal, ((x.1.1, x.1.2.1 * 10 + (mnB x - 48), x.1.2.2.1, x.1.2.2.2.1 + 1, ()), ()))
  else (.exit 0, x)
def mnMu (x : MnS) : Nat := (x.1.2.2.1 - x.1.2.2.2.1).toNat
def mnPre (x : MnS) : Prop := 0 ≤ x.1.2.2.2.1 ∧ x.1.2.2.2.1 ≤ x.1.2.2.1 ∧ x.1.2.2.1 = (x.1.1.length : Int) ∧ x.1.2.2.1 ≤ 4611686018427387904 ∧ 0 ≤ x.1.2.1 ∧ x.1.2.1 ≤ 10737418249
theorem mnStp_ends (v : Value) (x : MnS) : (mnStp v x).1 = .normal ∨ (mnStp v x).1 = .exit 0 ∨ (mnStp v x).1 = .die v := by
  unfold mnStp
  cases decide (x.1.2.2.2.1 < x.1.2.2.1) with
  | false => exact .inr (.inl rfl)
  | true => cases badD 1073741824 (mnB x) x.1.2.1 with
    | true => exact .inr (.inr rfl)
    | false => exact .inl rfl
theorem mn_go {v : Value} {x : MnS} (hp : mnPre x) (h : (mnStp v x).1 = .normal) : mnPre (mnStp v x).2 ∧ mnMu (mnStp v x).2 < mnMu x := by
  obtain ⟨⟨s, n, len, i, ⟨⟩⟩, ⟨⟩⟩ := x
  obtain ⟨h1, h2, h3, h4, h5, h6⟩ := hp
  simp only at h1 h2 h3 h4 h5 h6
  unfold mnStp at h ⊢
  simp only at h ⊢
  by_cases hlt : i < len
  · rw [decide_eq_true hlt] at h ⊢
    cases hc : badD 1073741824 (mnB ((s, n, len, i, ()), ())) n with
    | true => rw [hc] at h; cases h
    | false =>
      have := badD_no hc
      generalize mnB ((s, n, len, i, ()), ()) = e at this ⊢
      refine ⟨⟨?_, ?_, h3, h4, ?_, ?_⟩, ?_⟩
      all_goals simp only [cond_true, cond_false, mnMu]
      all_goals omega
  · rw [decide_eq_false hlt] at h
    cases h
def mnEnd (v : Value) (o : Option Int) (p : Ex × MnS) : Prop := match o with
  | none => p.1 = .die v
  | some n => p.1 = .exit 0 ∧ p.2.1.2.1 = n
theorem drop_at {s : List UInt8} {i : Nat} (h : i < s.length) : s.drop i = s.getD i 0 :: s.drop (i + 1) := by
  rw [List.drop_eq_getElem_cons h]
  simp [List.getD, h]
theorem mn_run {v : Value} {o : Option Int} : ∀ (n : Nat) (x : MnS), (mnPre x ∧ numGo 1073741824 (x.1.1.drop x.1.2.2.2.1.toNat) x.1.2.1 = o) → mnMu x < n → mnEnd v o (runF (mnStp v) n x) :=
  runF_inv fun x hx => by
    obtain ⟨hp, ho⟩ := hx
    have hgo := mn_go (v := v) hp
    obtain ⟨⟨s, n, len, i, ⟨⟩⟩, ⟨⟩⟩ := x
    obtain ⟨h1, h2, h3, h4, h5, h6⟩ := hp
    simp only at h1 h2 h3 h4 h5 h6 ho
    by_cases hlt : i < len
    · have hn : i.toNat < s.length := by omega
      rw [drop_at hn, numGo, ← badD_eq] at ho
      have hb : mnB ((s, n, len, i, ()), ()) = ((s.getD i.toNat 0).toNat : Int) := rfl
      refine ⟨fun h => ⟨⟨(hgo h).1, ?_⟩, (hgo h).2⟩, fun h => ?_⟩
      · unfold mnStp at h ⊢
        simp only at h ⊢
        rw [decide_eq_true hlt] at h ⊢
        simp only [cond_true] at h ⊢
        rw [hb] at h ⊢
        cases hc : badD 1073741824 ((s.getD i.toNat 0).toNat : Int) n with
        | true => rw [hc] at h; cases h
        | false =>
          rw [hc] at ho
          simp only [cond_false] at ho ⊢
          rw [show (i + 1).toNat = i.toNat + 1 by omega]
          exact ho
      · unfold mnStp at h ⊢
        simp only at h ⊢
        rw [decide_eq_true hlt] at h ⊢
        simp only [cond_true] at h ⊢
        rw [hb] at h ⊢
        cases hc : badD 1073741824 ((s.getD i.toNat 0).toNat : Int) n with
        | false => rw [hc] at h; exact absurd rfl h
        | true =>
          rw [hc] at ho
          simp only [cond_true] at ho
          subst ho
          rfl
    · have hi : s.drop i.toNat = [] := List.drop_eq_nil_of_le (by omega)
      rw [hi, numGo] at ho
      subst ho
      refine ⟨fun h => ?_, fun _ => ?_⟩
      · unfold mnStp at h
        simp only at h
        rw [decide_eq_false hlt] at h
        cases h
      · unfold mnStp
        simp only
        rw [decide_eq_false hlt]
        exact ⟨rfl, rfl⟩
def mnSt (s : List UInt8) : MnS := ((s, 0, (s.length : Int), 0, ()), ())
theorem mn_all {v : Value} {s : List UInt8} (h : s.length ≤ 4611686018427387904) : mnPre (mnSt s) ∧ mnEnd v (numGo 1073741824 s 0) (runF (mnStp v) (mnMu (mnSt s) + 1) (mnSt s)) := by
  have hp : mnPre (mnSt s) := ⟨Int.le_refl _, by show (0 : Int) ≤ (s.length : Int); omega, rfl, by show (s.length : Int) ≤ _; omega, Int.le_refl _, by show (0 : Int) ≤ _; decide⟩
  exact ⟨hp, mn_run _ _ ⟨hp, rfl⟩ (Nat.lt_succ_self _)⟩
theorem num_pos {top : Int} : ∀ (s : List UInt8) (n : Int), 0 ≤ n → ∀ v, numGo top s n = some v → 0 ≤ v
  | [], n, h, v, hv => by simp only [numGo, Option.some.injEq] at hv; omega
  | b :: l, n, h, v, hv => by
    rw [numGo, ← badD_eq] at hv
    cases hc : badD top (b.toNat : Int) n with
    | true => rw [hc] at hv; cases hv
    | false =>
      rw [hc] at hv
      have := badD_no hc
      exact num_pos l _ (by omega) v hv
theorem with_low {s n : Int} (h0 : 0 ≤ s) (h1 : s < 65536) (h2 : 0 ≤ n) (h3 : n < 16) : 0 ≤ withF s n ∧ withF s n < 65536 := by
  obtain ⟨m, rfl⟩ : ∃ m : Nat, s = (m : Int) := ⟨s.toNat, by omega⟩
  obtain ⟨j, rfl⟩ : ∃ j : Nat, n = (j : Int) := ⟨n.toNat, by omega⟩
  have hm : m < 65536 := by omega
  have hj : j < 16 := by omega
  rw [with_nat hm hj]
  have h4 : 2 ^ j < 2 ^ 16 := Nat.pow_lt_pow_right (by omega) hj
  have h5 : m ||| 2 ^ j < 2 ^ 16 := Nat.or_lt_two_pow (by omega) h4
  omega
theorem npGo_low : ∀ (l : List UInt8) (s last : Int), 96 ≤ last → 0 ≤ s → s < 65536 → ∀ v, npGo l s last = some v → 0 ≤ v ∧ v < 65536
  | [], s, last, _, h0, h1, v, hv => by simp only [npGo, Option.some.injEq] at hv; omega
  | b :: l, s, last, hl, h0, h1, v, hv => by
    rw [npGo] at hv
    by_cases h2 : (b.toNat : Int) ≤ last
    · rw [decide_eq_true h2] at hv; cases hv
    · by_cases h3 : (b.toNat : Int) > 112
      · rw [decide_eq_false h2, decide_eq_true h3] at hv; cases hv
      · rw [decide_eq_false h2, decide_eq_false h3] at hv
        have h4 := with_low h0 h1 (n := (b.toNat : Int) - 97) (by omega) (by omega)
        exact npGo_low l _ _ (by omega) h4.1 h4.2 v hv
theorem np_low (s : List UInt8) : 0 ≤ (nparseF s).1 ∧ (nparseF s).1 < 65536 := by
  unfold nparseF
  cases s == [46] with
  | true => exact ⟨Int.le_refl _, by show (0 : Int) < _; decide⟩
  | false =>
    simp only [cond_false]
    cases h : npGo s 0 96 with
    | none => exact ⟨Int.le_refl _, by show (0 : Int) < _; decide⟩
    | some v =>
      have := npGo_low s 0 96 (by omega) (by omega) (by omega) v h
      simp only
      cases v == 0 with
      | true => exact ⟨Int.le_refl _, by show (0 : Int) < _; decide⟩
      | false => exact this
theorem numP_bad {s : List UInt8} (h : (bif s == [] then true else lzF s) = true) : numP s = -1 := by
  unfold numP
  cases numGo 1073741824 s 0 with
  | none => rfl
  | some n => simp only; rw [h]; rfl
theorem numP_none {s : List UInt8} (h : numGo 1073741824 s 0 = none) : numP s = -1 := by
  unfold numP
  rw [h]
theorem numP_some {s : List UInt8} {n : Int} (h : (bif s == [] then true else lzF s) = false) (hn : numGo 1073741824 s 0 = some n) : numP s = n ∧ 0 ≤ n := by
  refine ⟨?_, num_pos s 0 (Int.le_refl _) n hn⟩
  unfold numP
  rw [hn]
  simp only
  rw [h]
  rfl
theorem isLine_len {w : List (List UInt8)} {k : List UInt8} {n : Int} (h : isLine w k n = true) : (w.length : Int) = n := by
  unfold isLine at h
  cases hk : w.getD 0 [] == k with
  | false => rw [hk] at h; cases h
  | true => rw [hk] at h; simpa using h
theorem lb_node {c : DConf} {w : List (List UInt8)} (h : isLine w wNode 2 = true) : lineBad c w = nodeBad (w.getD 1 []) ∧ lineN c w = (nodeP (w.getD 1 []), c.2) := by
  unfold lineBad lineN
  rw [h]
  exact ⟨rfl, rfl⟩
theorem lb_rules {c : DConf} {w : List (List UInt8)} (h : isLine w wNode 2 = false) (h2 : isLine w wRules 5 = true) : lineBad c w = (bif negP (rulesP w).1 then true else bif negP (rulesP w).2.1 then true else bif negP (rulesP w).2.2.1 then true else negP (rulesP w).2.2.2) ∧ lineN c w = (c.1, rulesP w, c.2.2) := by
  unfold lineBad lineN
  rw [h, h2]
  exact ⟨rfl, rfl⟩
theorem lb_link {c : DConf} {w : List (List UInt8)} (h : isLine w wNode 2 = false) (h2 : isLine w wRules 5 = false) (h3 : isLine w wLink 3 = true) : lineBad c w = (bif (bif nodeBad (w.getD 1 []) then true else negP (numP (w.getD 2 []))) then true else bif decide (numP (w.getD 2 []) > 65536) then true else (setP c w).2 != (0 : Int)) ∧ lineN c w = (c.1, c.2.1, (setP c w).1) := by
  unfold lineBad lineN
  rw [h, h2, h3]
  exact ⟨rfl, rfl⟩
theorem lb_none {c : DConf} {w : List (List UInt8)} (h : isLine w wNode 2 = false) (h2 : isLine w wRules 5 = false) (h3 : isLine w wLink 3 = false) : lineBad c w = true := by
  unfold lineBad
  rw [h, h2, h3]
  rfl
theorem words_pos (s : List UInt8) : 0 < (wordsF s).length := by
  have : ∀ (s cur : List UInt8), 0 < (wordsGo s cur).length := by
    intro s
    induction s with
    | nil => intro cur; simp [wordsGo]
    | cons b l ih =>
      intro cur
      rw [wordsGo]
      cases b == 32 with
      | true => simp
      | false => exact ih _
  exact this s []
end Go.Ev
/- Loops in which a round may panic. -/
set_option linter.unusedVariables false
namespace Go.Ev
def isDieX : Ex → Bool
  | .die _ => true
  | _ => false
/-- A loop that ends, or panics with v. -/
def outD {σ : Type} (v : Value) (id : Nat) (p : Ex × σ) : Tree (Ex × σ) := .br (isDieX p.1) (.leaf (.die v, p.2)) (.leaf (.exit id, p.2))
section
variable {C : Ctx} {body : Code} {D : LoopD}
theorem loopFD_ok {T : ShT D.ts × ShB D.bs → Tree (Ex × Option (ShT D.ts × ShB D.bs))} (hstep : ∀ x, roundOf C D body x = T x) {v : Value} {id : Nat} (stp : ShT D.ts × ShB D.bs → Ex × (ShT D.ts × ShB D.bs)) (μ : ShT D.ts × ShB D.bs → Nat) (hD : ∀ x, D.out x = outD v id (runF stp (μ x + 1) x))
    (he : ∀ x, (stp x).1 = .normal ∨ (stp x).1 = .exit id ∨ (stp x).1 = .die v) (h : ∀ x, D.pre x → ((T x).holds fun p => p = ((stp x).1, some (stp x).2)) ∧ ((stp x).1 = .normal → D.pre (stp x).2 ∧ μ (stp x).2 < μ x)) : LoopOK C D.spec body :=
  loopF_ok hstep stp μ (outD v id) hD (fun x _ hn G hG => by
    rcases (he x).resolve_left hn with h1 | h1
    · have e : stp x = (.exit id, (stp x).2) := Prod.ext h1 rfl
      rw [e] at hG ⊢
      exact hG.2 rfl
    · have e : stp x = (.die v, (stp x).2) := Prod.ext h1 rfl
      rw [e] at hG ⊢
      exact hG.1 rfl) h
end
end Go.Ev
/- A text split at blanks, as the library tells it, and as we do. -/
set_option linter.unusedVariables false
set_option linter.unusedSimpArgs false
namespace Go.Ev
theorem split_ne (k : Nat) (s : List UInt8) : ∃ w ws, Lib.splitK [32] 0 k s = w :: ws := by
  cases k with
  | zero => exact ⟨s, [], rfl⟩
  | succ k =>
    unfold Lib.splitK
    split
    · exact ⟨_, _, rfl⟩
    · exact ⟨_, _, rfl⟩
theorem index_cons_ne {b : UInt8} {l : List UInt8} (h : b ≠ 32) : Lib.index (b :: l) [32] = if Lib.index l [32] == -1 then -1 else Lib.index l [32] + 1 := by
  have hp : ([32] : List UInt8).isPrefixOf (b :: l) = false := by simp [List.isPrefixOf, Ne.symm h]
  rw [Lib.index, hp]
  simp
theorem split_cons_ne {b : UInt8} {l : List UInt8} (h : b ≠ 32) (k : Nat) {w : List UInt8} {ws : List (List UInt8)} (hl : Lib.splitK [32] 0 k l = w :: ws) : Lib.splitK [32] 0 k (b :: l) = (b :: w) :: ws := by
  cases k with
  | zero =>
    simp only [Lib.splitK, List.cons.injEq] at hl ⊢
    exact ⟨⟨trivial, hl.1⟩, hl.2⟩
  | succ k =>
    unfold Lib.splitK at hl ⊢
    rw [index_cons_ne h]
    have hge := Lib.index_ge l [32]
    by_cases hm : Lib.index l [32] = -1
    · rw [hm] at hl ⊢
      simp only [beq_self_eq_true, if_true, List.cons.injEq] at hl ⊢
      exact ⟨⟨trivial, hl.1⟩, hl.2⟩
    · have h1 : (Lib.index l [32] == -1) = false := by simpa using hm
      have h2 : (Lib.index l [32] + 1 == -1) = false := by
        have : Lib.index l [32] + 1 ≠ -1 := by omega
        simpa using this
      rw [h1] at hl ⊢
      simp only [Bool.false_eq_true, if_false] at hl ⊢
      rw [h2]
      simp only [Bool.false_eq_true, if_false]
      have e : (Lib.index l [32] + 1).toNat = (Lib.index l [32]).toNat + 1 := by omega
      rw [e, show (Lib.index l [32]).toNat + 1 + 0 = ((Lib.index l [32]).toNat + 0) + 1 by omega, List.take_succ_cons,
        show (Lib.index l [32]).toNat + 1 + List.length [(32 : UInt8)] = ((Lib.index l [32]).toNat + List.length [(32 : UInt8)]) + 1 by omega, List.drop_succ_cons]
      simp only [List.cons.injEq] at hl ⊢
      exact ⟨⟨trivial, hl.1⟩, hl.2⟩
theorem split_words : ∀ (s cur : List UInt8), ∀ w ws, Lib.splitK [32] 0 (Lib.count s [32]) s = w :: ws → wordsGo s cur = (cur ++ w) :: ws
  | [], cur, w, ws, h => by
    have e : Lib.count ([] : List UInt8) [32] = 0 := by decide
    rw [e] at h
    simp only [Lib.splitK, List.cons.injEq] at h
    rw [← h.1, ← h.2, List.append_nil]
    rfl
  | b :: l, cur, w, ws, h => by
    obtain ⟨w', ws', hl⟩ := split_ne (Lib.count l [32]) l
    by_cases hb : b = 32
    · subst hb
      rw [Lib.count_cons_eq, show 1 + Lib.count l [32] = Lib.count l [32] + 1 by omega] at h
      have h0 : Lib.index ((32 : UInt8) :: l) [32] = 0 := by rw [Lib.index]; simp [List.isPrefixOf]
      unfold Lib.splitK at h
      rw [h0] at h
      have h1 : ((0 : Int) == -1) = false := by decide
      rw [h1] at h
      simp only [Bool.false_eq_true, if_false] at h
      have h2 : Lib.splitK [32] 0 (Lib.count l [32]) l = w' :: ws' := hl
      have ih := split_words l [] w' ws' h2
      have h3 : (([] : List UInt8) :: Lib.splitK [32] 0 (Lib.count l [32]) l) = w :: ws := h
      simp only [List.cons.injEq] at h3
      rw [wordsGo]
      show cur :: wordsGo l [] = _
      rw [ih, ← h3.1, ← h3.2, hl, List.append_nil]
      rfl
    · rw [Lib.count_cons_ne b 32 l hb, split_cons_ne hb _ hl] at h
      simp only [List.cons.injEq] at h
      have hb' : (b == 32) = false := by simpa using hb
      rw [wordsGo, hb']
      show wordsGo l (cur ++ [b]) = _
      rw [split_words l (cur ++ [b]) w' ws' hl, ← h.1, ← h.2, List.append_assoc]
      rfl
/-- The library's words are ours. -/
theorem splitB_words (s : List UInt8) : (Lib.splitB ⟨⟨[32]⟩⟩ 0 (Lib.countB ⟨⟨s⟩⟩ ⟨⟨[32]⟩⟩) ⟨⟨s⟩⟩).map (·.data.toList) = wordsF s := by
  rw [Lib.splitB_data]
  obtain ⟨w, ws, h⟩ := split_ne (Lib.count s [32]) s
  show Lib.splitK [32] 0 (Lib.count s [32]) s = _
  rw [h]
  exact (split_words s [] w ws h).symm
theorem words_lens : ∀ (s cur : List UInt8), (wordsGo s cur).length ≤ s.length + 1 ∧ ∀ w ∈ wordsGo s cur, w.length ≤ s.length + cur.length
  | [], cur => by simp [wordsGo]
  | b :: l, cur => by
    rw [wordsGo]
    cases b == 32 with
    | true =>
      obtain ⟨h1, h2⟩ := words_lens l []
      simp only [cond_true, List.length_cons, List.mem_cons]
      refine ⟨by omega, fun w hw => ?_⟩
      rcases hw with rfl | hw
      · omega
      · have := h2 w hw
        simp only [List.length_nil] at this
        omega
    | false =>
      obtain ⟨h1, h2⟩ := words_lens l (cur ++ [b])
      simp only [cond_false, List.length_cons]
      refine ⟨by omega, fun w hw => ?_⟩
      have := h2 w hw
      simp only [List.length_append, List.length_cons, List.length_nil] at this
      omega
end Go.Ev
/- Functions that defer a closure which recovers. -/
set_option linter.unusedVariables false
set_option linter.unusedSimpArgs false
namespace Go.Ev
open Go.Conc
/-- Operations that make no box anew, one after the other. -/
def runOpsC (C : Ctx) : List Oper → St → Tree St
  | [], s => .leaf s
  | o :: l, s => match opEff C.τ C.Γ (o.dst.getD 0) o (s.args o) with
    | none => .stuck
    | some e => match e.wr.all (fun x => !x.2.1) with
      | true => .needO e.need (runOpsC C l (s.after o e))
      | false => .stuck
section
variable {P : Program} {C : Ctx} {R : Ref}
/-- The same memory, seen through. -/
theorem runOpsC_wp (TOK : TysOK P C.τ) (GOK : CtrsOK P C.Γ) {ops : Array Oper} {Q : Exit → Act → World → Prop} {M0 : Mem} : ∀ (l : List Oper) (k : Nat) (s : St) (a : Act) (M : Mem) (F : St → Prop), (∀ i o, l[i]? = some o → ops[k + i]? = some o) →
    (∀ o ∈ l, o.guard = none ∧ ∀ d, o.dst = some d → d < a.tmps.size) → M.bs = s.boxes → InvM R M → (∀ t, RelV M (s.look t) (a.tmps.getD t undef)) → Step M0 M (fun _ => False) → (runOpsC C l s).holds F →
    (∀ s' a' M', F s' → M'.bs = s'.boxes → InvM R M' → (∀ t, RelV M' (s'.look t) (a'.tmps.getD t undef)) → Step M0 M' (fun _ => False) → a'.defers = a.defers → Q .normal a' M'.w) → wpOps P ops Q (List.range' k l.length) a M.w
  | [], k, s, a, M, F, _, _, hb, I, hr, hst, hF, hQ => by
    simp only [List.length_nil, List.range'_zero, wpOps]
    exact hQ s a M hF hb I hr hst rfl
  | o :: l, k, s, a, M, F, hops, hl, hb, I, hr, hst, hF, hQ => by
    have ho : ops[k]? = some o := by simpa using hops 0 o (by simp)
    simp only [List.length_cons, List.range'_succ, wpOps, ho]
    obtain ⟨hg, hd⟩ := hl o (by simp)
    rw [if_pos (by simp [Region.wanted, hg])]
    refine .inl ?_
    simp only [runOpsC] at hF
    split at hF
    · exact hF.elim
    · rename_i e he
      split at hF
      · rename_i hall
        obtain ⟨hn, hF⟩ := holds_needO.1 hF
        rw [args_eq s o hb] at he
        have hy := opEff_sound TOK GOK I (eval_func a) (opRel_of (R.tab.keeps I.old) hr o) he hn
        refine hy.wp (fun v w' hv => ?_)
        have hv' := hv
        obtain ⟨S', β', I', st, hrv⟩ := hv
        have hk : ∀ b, ¬ killed e.wr b := fun b hkb => by
          obtain ⟨B, hB⟩ := hkb
          rw [List.all_eq_true] at hall
          have := hall _ hB
          simp at this
        have hst' := (hst.trans st).mono (K' := fun _ => False) (fun b hb => hb.elim id (hk b))
        refine runOpsC_wp TOK GOK l (k + 1) (s.after o e) (a.put o.dst v) ⟨w', S', β', applyB e.wr M.bs⟩ F (fun i o' hi => by have := hops (i + 1) o' (by simpa using hi); rwa [show k + 1 + i = k + (i + 1) by omega]) (fun o' ho' => ⟨(hl o' (by simp [ho'])).1, fun d hd' => by rw [put_size]; exact (hl o' (by simp [ho'])).2 d hd'⟩)
          (by rw [boxes_after, ← hb]) I' (fun t => ?_) hst' hF (fun s' a' M' f1 f2 f3 f4 f5 f6 => hQ s' a' M' f1 f2 f3 f4 f5 (f6.trans (put_defers' _ _ _)))
        rw [look_after, put_getD a o.dst v t hd]
        split
        · exact hrv
        · rcases wrs_look e.wr s t with h1 | ⟨h1, h2⟩
          · rw [h1]; simp [RelV]
          · rw [h1]
            exact (hr t).step st (fun b hkb => absurd hkb (hk b))
      · exact hF.elim
/-- A closure is deferred. -/
theorem defer_wp {o : Oper} {x : Operand} {f : Nat} {caps : Array Value} {a : Act} {w : World} {next : Act → World → Prop} {Q : Exit → Act → World → Prop} (hop : o.op = .defer { callee := .value x, args := #[], argTypes := #[] }) (hx : a.eval x = .func (.func f) #[] caps)
    (h : next ({ a with defers := { target := .fn (.func f) caps, args := #[] } :: a.defers }.put o.dst undef) w) : o.wp P a w next Q := by
  unfold Oper.wp
  have hrun : (execOp a.eval o).run P w = .ok (.defer { target := .fn (.func f) caps, args := #[] }) w := by
    simp only [execOp, hop, resolve, hx, Deferred.ofValue, Sem.run_bind]
    simp
  rw [hrun]
  exact h
/-- A piece that ends in whatever way, and what stands in the slots of a shape then. -/
def endT (C : Ctx) (ts : List (Nat × Sh)) (bs : List (Nat × BSh)) (l : List Code) (s : St) : Tree (Ex × Option (ShT ts × ShB bs)) :=
  (evL C l s).bind fun p => match restrict { prom := [], keep := ts.map (·.1), boxes := bs.map (·.1), sum := fun _ => .stuck } p.2 with
    | none => .stuck
    | some s' => .leaf (p.1, unS ts bs s')
theorem end_to {b : Frame} {Q : Exit → Act → World → Prop} {a : Act} {w : World} (TOK : TysOK P C.τ) (GC : CtrsOK P C.Γ) (hmix : P.follows .mixedOrders = true) (DK : DsOK P C) {ts : List (Nat × Sh)} {bs : List (Nat × BSh)} {rest l : List Code} {s : St} {G : Ex × Option (ShT ts × ShB bs) → Prop} (hl : ∀ c ∈ l, LamOK C c) (hsz : ∀ c ∈ l, ∀ t ∈ writes c, t < a.tmps.size) (hs : IsSt R s a w) (hG : (endT C ts bs l s).holds G)
    (hend : ∀ z x a' w', G (z, some x) → IsSt R (mkS ts bs x) a' w' → a'.tmps.size = a.tmps.size → a'.defers = a.defers → (∀ t, (∀ c ∈ l, t ∉ writes c) → a'.tmps.getD t undef = a.tmps.getD t undef) → match z with
      | .normal => LTo P b rest Q a' w'
      | z => Q z.to a' w') (hbad : ∀ z, ¬ G (z, none)) : LTo P b (l ++ rest) Q a w := by
  refine evL_toD TOK GC hmix DK l s a w hl hsz hs (holds_bind.1 hG) ?_
  intro z s' a' w' hF h1 h2 h3 h4
  simp only at hF
  split at hF
  · exact hF.elim
  · rename_i s'' hr
    have h5 := h1.restr (restrict_spec hr)
    simp only [Tree.holds] at hF
    cases hu : unS ts bs s'' with
    | none => rw [hu] at hF; exact absurd hF (hbad z)
    | some x =>
      rw [hu] at hF
      have := unS_eq hu
      subst this
      exact hend z x a' w' hF h5 h2 h3 h4
/-- A function that defers. -/
theorem calls_of_to_defers {f : FuncId} {fn : Func} {c : Code} {args : Array Value} {w : World} {R : Ending → World → Prop} (hf : P.funcs[f]? = some fn) (hb : fn.body = some c)
    (h : CodeTo P { (default : Frame) with fn := f, kind := .normal } c (bodyPostD P fn R) { tmps := args ++ Array.replicate (fn.ntmps - args.size) undef, defers := [] } w) : Calls P f args w R := by
  intro cs
  let b : Frame := { (default : Frame) with fn := f, kind := .normal }
  have henter : Frame.enter P f args .normal = b.at { tmps := args ++ Array.replicate (fn.ntmps - args.size) undef, defers := [] } [.code c] := by
    simp [Frame.enter, Frame.at, hf, hb, b]
  obtain ⟨e, a', w', hq, harr⟩ := h [] cs
  rw [← henter] at harr
  cases e with
  | normal =>
    obtain ⟨e', w'', fr', hR, hs, hfn, hl⟩ := leaves_steps a'.defers .returning w' { b.at a' [] with mode := .returning } cs rfl rfl rfl hf rfl hq
    exact ⟨e', w'', fr', hR, Comes.of_steps (Steps.trans harr (.one step_end)) hs, hfn, hl⟩
  | ret =>
    obtain ⟨todo, hs₀⟩ := harr
    obtain ⟨e', w'', fr', hR, hs, hfn, hl⟩ := leaves_steps a'.defers .returning w' { b.at a' todo with mode := .returning } cs rfl rfl rfl hf rfl hq
    exact ⟨e', w'', fr', hR, Comes.of_steps hs₀ hs, hfn, hl⟩
  | panic chain =>
    obtain ⟨todo, hs₀⟩ := harr
    obtain ⟨e', w'', fr', hR, hs, hfn, hl⟩ := leaves_steps a'.defers (.panicking chain) w' { b.at a' todo with mode := .panicking chain } cs rfl rfl rfl hf rfl hq
    exact ⟨e', w'', fr', hR, Comes.of_steps hs₀ hs, hfn, hl⟩
  | exit id => exact hq.elim
  | goto l => exact hq.elim
  | outgrown => exact ⟨.outgrown, w', b, hq, harr.resolve_left (by simp [b]), rfl, trivial⟩
/-- A function that defers keeps its contract. -/
theorem ctr_of_toD (TOK : TysOK P C.τ) {f : Nat} {k : Ctr} (hf : (P.funcs[f]?).isSome = true) (hname : ((fnOf P f).name == "runtime.NumGoroutine") = false) (hbody : (fnOf P f).body.isSome = true) (hn : ∀ x, (resL k.args x).length ≤ (fnOf P f).ntmps)
    (h : ∀ (R0 : Ref) (b : Frame) (x : dens k.args) (a : Act) (Rp : Ending → World → Prop), (∀ s' a' w', IsSt R0 s' a' w' → (evRes C (fnOf P f) k.res (.normal, s')).holds (fun z => z = k.fn x) → Leaves P (fnOf P f) a'.tmps Rp [] .returning w') → wtD k.args x → (∀ p, k.pre = some p → p x) →
      IsSt R0 { tmps := number 0 (resL k.args x), boxes := [] } a R0.w0 → a.tmps.size = (fnOf P f).ntmps → a.defers = [] → LTo P b (seqs (bodyOf (fnOf P f))) (bodyPostD P (fnOf P f) Rp) a R0.w0) : CtrOK P f k := by
  refine ⟨⟨_, fnOf_eq hf, by rw [bodyOf_eq hbody]; rfl, hname⟩, fun w S us x hS hT henc hpre => ?_⟩
  have h0 := start_st (n := (fnOf P f).ntmps) hS hT henc
  have hlen := (resL_rel (M := ⟨w, S, fun _ => undef, []⟩) henc).length
  have hx := hn x
  refine calls_of_to_defers (fnOf_eq hf) (bodyOf_eq hbody) ?_
  refine CodeTo.seqs (h ⟨w, fun _ => False, S, hT⟩ _ x _ _ (fun s' a' w' h1 h2 => ?_) henc.wt hpre h0 (by simp; omega) rfl)
  exact finish_st TOK h1 h2
/-! recover -/
section
variable {ops : Array Oper} {Q : Exit → Act → List Frame → World → Prop} {i : Nat} {rest : List Nat} {a : Act} {cs cs' : List Frame} {w w' : World} {o : Oper} {v : Value}
theorem opsS_recover (ho : ops[i]? = some o) (hg : o.guard = none) (hop : o.op = .call { callee := .builtin .recover, args := #[], argTypes := #[] }) (hrec : recoverD cs = some (v, cs')) (h : wpOpsS P ops Q rest (a.put o.dst v) cs' w) : wpOpsS P ops Q (i :: rest) a cs w := by
  have hrun : (execOp a.eval o).run P w = .ok .recover w := by
    unfold execOp
    rw [hop]
    rfl
  simp only [wpOpsS, ho]
  rw [if_pos (by simp [Region.wanted, hg])]
  rw [hrun]
  simp only [hrec]
  exact h
theorem opsS_idle (ho : ops[i]? = some o) (hg : o.guard = none) (hop : o.op = .call { callee := .builtin .recover, args := #[], argTypes := #[] }) (hrec : recoverD cs = none) (h : wpOpsS P ops Q rest (a.put o.dst .nilIface) cs w) : wpOpsS P ops Q (i :: rest) a cs w := by
  have hrun : (execOp a.eval o).run P w = .ok .recover w := by
    unfold execOp
    rw [hop]
    rfl
  simp only [wpOpsS, ho]
  rw [if_pos (by simp [Region.wanted, hg])]
  rw [hrun]
  simp only [hrec]
  exact h
theorem opsS_value (ho : ops[i]? = some o) (hg : o.guard = none) (hrun : (execOp a.eval o).run P w = .ok (.value v) w') (h : wpOpsS P ops Q rest (a.put o.dst v) cs w') : wpOpsS P ops Q (i :: rest) a cs w := by
  simp only [wpOpsS, ho]
  rw [if_pos (by simp [Region.wanted, hg])]
  rw [hrun]
  exact h
theorem run_neq_some {t ty' : TypeId} {ms : Array (String × TypeId)} {x : Operand} {ty : TypeId} {u : Value} {ρ : Operand → Value} (hu : P.underlying t = some (.interface ms)) (hop : o.op = .binOp .neq t x (.const .nilIface) ty') (hx : ρ x = .iface ty u) (hc : ρ (.const .nilIface) = .nilIface) :
    (execOp ρ o).run P w = .ok (.value (.bool true)) w := by
  have e1 : (eqGuard .neq t x (.const .nilIface) (.iface ty u) .nilIface).run P w = .ok () w := by
    unfold eqGuard
    simp
  have e2 := equal_err_nil hu ty u w
  simp only [execOp, hop, hx, hc]
  refine maybe_run ?_
  show ((do eqGuard .neq t x (.const .nilIface) (.iface ty u) .nilIface; pure (.bool (!(← Op.equal t (.iface ty u) .nilIface)))) : Sem Value).run P w = _
  simp [e1, e2]
theorem run_neq_none {t ty' : TypeId} {ms : Array (String × TypeId)} {x : Operand} {ρ : Operand → Value} (hu : P.underlying t = some (.interface ms)) (hop : o.op = .binOp .neq t x (.const .nilIface) ty') (hx : ρ x = .nilIface) (hc : ρ (.const .nilIface) = .nilIface) :
    (execOp ρ o).run P w = .ok (.value (.bool false)) w := by
  have e1 : (eqGuard .neq t x (.const .nilIface) .nilIface .nilIface).run P w = .ok () w := by
    unfold eqGuard
    simp
  have e2 := equal_nil_nil hu w
  simp only [execOp, hop, hx, hc]
  refine maybe_run ?_
  show ((do eqGuard .neq t x (.const .nilIface) .nilIface .nilIface; pure (.bool (!(← Op.equal t .nilIface .nilIface)))) : Sem Value).run P w = _
  simp [e1, e2]
end
end
theorem farO_all {n : Nat} {ds : List Nat} {l : List Oper} (h : farO n ds l = true) : ∀ o ∈ l, o.guard = none ∧ ∀ d, o.dst = some d → d < n := fun o ho => by
  unfold farO at h
  rw [List.all_eq_true] at h
  have h1 := h o ho
  rw [Bool.and_eq_true] at h1
  refine ⟨by simpa using h1.1, fun d hd => ?_⟩
  have h2 := h1.2
  rw [hd] at h2
  simp only [Bool.and_eq_true, Nat.blt_eq] at h2
  exact h2.1
theorem ptr_same {M : Mem} {b : Nat} {g : GTy} {p : List PStep} {u v : Value} (h : RelV M (.ptr b g p) u) (k : RelV M (.ptr b g p) v) : u = v := by
  simp only [RelV] at h k
  obtain ⟨blk, d, B, _, _, h3, h4⟩ := h
  obtain ⟨blk', d', B', _, _, k3, k4⟩ := k
  rw [h3] at k3
  have := Option.some.inj k3
  subst this
  rw [h4, k4]
theorem invoke_fn {P : Program} {f : Nat} {fn : Func} {caps : Array Value} (hf : P.funcs[f]? = some fn) (hb : fn.body.isNone = false) (hn : (fn.name == "runtime.NumGoroutine") = false) (w : World) : (invoke (.fn (.func f) caps) #[]).run P w = .ok (.enter f caps) w := by
  have h2' : ¬ fn.body = none := by intro hh; rw [hh] at hb; simp at hb
  have h3' : ¬ fn.name = "runtime.NumGoroutine" := by simpa using hn
  simp [invoke, callFunc, hf, h2', h3']
end Go.Ev
/- Trees read: the steps. -/
set_option linter.unusedVariables false
set_option linter.unusedSimpArgs false
namespace Go.Ev
/-! The program's loop -/
/-! A told tree, read -/
end Go.Ev
/- Trees read: the document's reading, and what both come to. -/
set_option linter.unusedVariables false
set_option linter.unusedSimpArgs false
namespace Go.Ev
/-! The document's machine -/
end Go.Ev
/- A command read letter by letter. -/
set_option linter.unusedVariables false
set_option linter.unusedSimpArgs false
namespace Go.Ev
/-! The whole -/
end Go.Ev
/- A printed command, read letter by letter. -/
set_option linter.unusedVariables false
set_option linter.unusedSimpArgs false
namespace Go.Ev
/-! Digits -/
theorem digF_nat {n : Int} (h : 0 ≤ n) : digF n = natT n.toNat := by
  unfold digF
  rw [decide_eq_false (by omega)]
  rfl
theorem digs_low {x : Int} (h : x < 10) : bytesToStr [IntKind.wrap IntKind.u8 (IntKind.wrap IntKind.i64 ((48 : Int) + if (0 : Int) < x then x else 0))] = natT x.toNat := by
  by_cases h0 : 0 < x
  · rw [if_pos h0, dig_one (by omega) h, digF_nat (by omega)]
  · rw [if_neg h0, show x.toNat = 0 by omega]
    decide +kernel
theorem digs_quo {x : Int} (h0 : ¬ x < 10) (h1 : x ≤ 9223372036854775807) : IntKind.wrap IntKind.i64 (Int.tdiv x (10 : Int)) = x / 10 := by
  rw [Int.tdiv_eq_ediv_of_nonneg (by omega)]
  exact i64_id (by omega) (by omega)
theorem digs_more {x : Int} (h0 : ¬ x < 10) (h1 : x ≤ 9223372036854775807) : natT (IntKind.wrap IntKind.i64 (Int.tdiv x (10 : Int))).toNat ++ bytesToStr [IntKind.wrap IntKind.u8 (IntKind.wrap IntKind.i64 ((48 : Int) + Int.tmod x (10 : Int)))] = natT x.toNat := by
  have h := dig_more h0 h1
  rw [digF_nat (n := x) (by omega), digF_nat (by rw [digs_quo h0 h1]; omega)] at h
  exact h
end Go.Ev
/- Trees read: told trees come back; what both readings come to. -/
set_option linter.unusedVariables false
set_option linter.unusedSimpArgs false
namespace Go.Ev
section
variable {s : List UInt8} {e j n : Int} {t2 t4 : List DEnt} {k : Nat}
end
/-! What both come to -/
end Go.Ev
/- Links read: the program's loop and the document's machine. -/
set_option linter.unusedVariables false
set_option linter.unusedSimpArgs false
namespace Go.Ev
def sndP (c : DCosts) : Prop := soundF c = true ∧ c.2.length = 16
def zeroC : DCosts := (0, List.replicate 16 0)
/-! Cut at a letter -/
theorem index_at {b : UInt8} : ∀ (p q : List UInt8), b ∉ p → Lib.index (p ++ b :: q) [b] = (p.length : Int)
  | [], q, _ => by
    show Lib.index (b :: q) [b] = 0
    unfold Lib.index
    rw [if_pos (by simp [List.isPrefixOf])]
  | a :: p, q, h => by
    have hne : ¬ b = a := fun e => h (by simp [e])
    have ih := index_at p q (fun hm => h (List.mem_cons_of_mem _ hm))
    show Lib.index (a :: (p ++ b :: q)) [b] = _
    unfold Lib.index
    rw [if_neg (by simp [List.isPrefixOf, hne]), ih, if_neg (by simp)]
    simp
theorem cut_at {b : UInt8} {p q : List UInt8} (h : b ∉ p) : Lib.cut (p ++ b :: q) [b] = (p, q, true) := by
  unfold Lib.cut
  rw [index_at p q h, if_pos (Int.natCast_nonneg _)]
  simp only [Int.toNat_natCast, List.take_left, List.length_cons, List.length_nil]
  rw [show p.length + (0 + 1) = (p ++ [b]).length by simp, show p ++ b :: q = (p ++ [b]) ++ q by simp, List.drop_left]
theorem cut_less {s t : List UInt8} (ht : t ≠ []) (h : (Lib.cut s t).2.2 = true) : (Lib.cut s t).2.1.length < s.length := by
  unfold Lib.cut at h ⊢
  split
  · rename_i h0
    have hr := Lib.index_room s t h0
    have h1 : 0 < t.length := List.length_pos_iff.2 ht
    simp only [List.length_drop]
    omega
  · rename_i h0; rw [if_neg h0] at h; cases h
/-! The program's loop -/
/-! The document's machine -/
end Go.Ev
/- The better of two trees, and what is asked of trees read. -/
set_option linter.unusedVariables false
set_option linter.unusedSimpArgs false
namespace Go.Ev
/-! The better of two -/
def betK (b : List DEnt) : Nat → List DEnt → List DEnt
  | 0, a => a
  | k + 1, a => betK b k (bif decide ((entAt b (15 - k)).1 < (entAt a (15 - k)).1) then a.set (15 - k) (entAt b (15 - k)) else a)
def betF (a b : List DEnt) : List DEnt := betK b 16 a
/-! Plain trees, as the law asks -/
def plB (e : DEnt) : Bool := bif e.2 == (-1 : Int) then true else bif rightF e.2 then e.1 != (4294967295 : Int) else false
def plainK (t : List DEnt) : Nat → Bool → Bool
  | 0, p => p
  | k + 1, p => plainK t k (bif p then plB (entAt t (15 - k)) else false)
attribute [irreducible] betF betK plainK
end Go.Ev
/- Links read: told links come back. -/
set_option linter.unusedVariables false
set_option linter.unusedSimpArgs false
namespace Go.Ev
def addC (c : DCosts) (a : DCosts) (j : Int) : DCosts := (withF a.1 j, a.2.set j.toNat (c.2.getD j.toNat 0))
theorem add_fold {c : DCosts} : ∀ (l : List Int) (a : Nat) (ys : List Int), a < 65536 → ys.length = 16 → (∀ j ∈ l, 0 ≤ j ∧ j < 16) →
    ∃ (a' : Nat) (ys' : List Int), l.foldl (addC c) ((a : Int), ys) = ((a' : Int), ys') ∧ a' < 65536 ∧ ys'.length = 16 ∧ (∀ n, n < 16 → a'.testBit n = (a.testBit n || decide ((n : Int) ∈ l))) ∧ ∀ n, n < 16 → ys'.getD n 0 = if (n : Int) ∈ l then c.2.getD n 0 else ys.getD n 0
  | [], a, ys, ha, hs, _ => ⟨a, ys, rfl, ha, hs, fun n _ => by simp, fun n _ => by simp⟩
  | j :: l, a, ys, ha, hs, hl => by
    obtain ⟨h0, h1⟩ := hl j (by simp)
    obtain ⟨i, rfl⟩ := Int.eq_ofNat_of_zero_le h0
    have hi : i < 16 := by omega
    have ho : a ||| 2 ^ i < 2 ^ 16 := Nat.or_lt_two_pow (by omega) (Nat.lt_of_le_of_lt (Nat.pow_le_pow_right (by omega) (show i ≤ 15 by omega)) (by decide))
    have h16 : (2 : Nat) ^ 16 = 65536 := by decide
    have e : addC c ((a : Int), ys) (i : Int) = (((a ||| 2 ^ i : Nat) : Int), ys.set i (c.2.getD i 0)) := by
      unfold addC
      simp only [Int.toNat_natCast]
      rw [with_nat ha hi]
    obtain ⟨a', ys', k1, k2, k3, k4, k5⟩ := add_fold (c := c) l (a ||| 2 ^ i) (ys.set i (c.2.getD i 0)) (by omega) (by rw [List.length_set]; exact hs) fun x hx => hl x (by simp [hx])
    refine ⟨a', ys', by rw [List.foldl_cons, e]; exact k1, k2, k3, fun n hn => ?_, fun n hn => ?_⟩
    · rw [k4 n hn, Nat.testBit_or, Nat.testBit_two_pow]
      have : decide ((n : Int) ∈ (i : Int) :: l) = (decide (i = n) || decide ((n : Int) ∈ l)) := by
        rw [← Bool.decide_or]
        congr 1
        rw [List.mem_cons]
        apply propext
        constructor <;> rintro (h | h)
        · left; omega
        · exact .inr h
        · left; omega
        · exact .inr h
      rw [this, Bool.or_assoc]
    · rw [k5 n hn, getD_set (by omega)]
      by_cases hm : (n : Int) ∈ l
      · rw [if_pos hm, if_pos (by simp [hm])]
      · rw [if_neg hm]
        by_cases hin : i = n
        · rw [if_pos hin, if_pos (by simp [hin]), hin]
        · rw [if_neg hin, if_neg]
          rw [List.mem_cons]
          rintro (h | h)
          · omega
          · exact hm h
theorem sound_fold {c : DCosts} (h : sndP c) : (elemsF c.1 16).foldl (addC c) zeroC = c := by
  obtain ⟨m, hm, hc, hok⟩ := sound_iff.1 h.1
  obtain ⟨a', ys', k1, k2, k3, k4, k5⟩ := add_fold (c := c) (elemsF c.1 16) 0 (List.replicate 16 0) (by decide) (by decide) fun j hj => by
    have := elem_in (Nat.le_refl 16) hj
    exact ⟨this.1, this.2.1⟩
  have hmem : ∀ n : Nat, n < 16 → ((n : Int) ∈ elemsF c.1 16 ↔ m.testBit n = true) := fun n hn => by
    rw [mem_elems (Nat.le_refl 16), hc, has_nat hn]
    constructor
    · exact fun h => h.2.2
    · exact fun h => ⟨by omega, by omega, h⟩
  have e : zeroC = (((0 : Nat) : Int), List.replicate 16 0) := rfl
  rw [e, k1]
  have ea : a' = m := Nat.eq_of_testBit_eq fun n => by
    by_cases hn : n < 16
    · rw [k4 n hn]
      rw [Nat.zero_testBit, Bool.false_or]
      cases hb : m.testBit n with
      | true => exact decide_eq_true ((hmem n hn).2 hb)
      | false => exact decide_eq_false fun hx => by rw [(hmem n hn).1 hx] at hb; cases hb
    · have hp : 2 ^ 16 ≤ 2 ^ n := Nat.pow_le_pow_right (by omega) (by omega)
      have h16 : (2 : Nat) ^ 16 = 65536 := by decide
      rw [Nat.testBit_lt_two_pow (show a' < 2 ^ n by omega), Nat.testBit_lt_two_pow (show m < 2 ^ n by omega)]
  have es : ys' = c.2 := List.ext_getElem (by rw [k3, h.2]) fun n h1 h2 => by
    have hn : n < 16 := by omega
    have := k5 n hn
    have z0 : (List.replicate 16 (0 : Int)).getD n 0 = 0 := by
      rw [List.getD_eq_getElem?_getD, List.getElem?_replicate, if_pos hn]; rfl
    rw [z0] at this
    have hx : ys'.getD n 0 = c.2.getD n 0 := by
      by_cases hb : (n : Int) ∈ elemsF c.1 16
      · rw [if_pos hb] at this; exact this
      · rw [if_neg hb] at this
        have ho := hok n hn
        have hb' : m.testBit n = false := by
          cases hb2 : m.testBit n with
          | false => rfl
          | true => exact absurd ((hmem n hn).2 hb2) hb
        rw [hb'] at ho
        simp only [cond_false] at ho
        have ho' : c.2.getD n 0 = 0 := by simpa using ho
        rw [this, ho']
    simpa [List.getD, h1, h2] using hx
  rw [ea, es, ← hc]
theorem sound_in {c : DCosts} (h : sndP c) : ∀ j ∈ elemsF c.1 16, 0 ≤ j ∧ j < 16 ∧ rcostF (c.2.getD j.toNat 0) = true := fun j hj => by
  obtain ⟨m, hm, hc, hok⟩ := sound_iff.1 h.1
  obtain ⟨h0, h1, h2⟩ := elem_in (Nat.le_refl 16) hj
  obtain ⟨i, rfl⟩ := Int.eq_ofNat_of_zero_le h0
  have := hok i (by omega)
  rw [hc, has_nat (by omega)] at h2
  rw [h2] at this
  exact ⟨h0, h1, this⟩
theorem rcost_in {w : Int} (h : rcostF w = true) : 1 ≤ w ∧ w ≤ 65536 := by
  unfold rcostF at h
  by_cases h1 : w ≥ 1
  · by_cases h2 : w ≤ 65536
    · exact ⟨h1, h2⟩
    · rw [decide_eq_true h1, decide_eq_false h2] at h; cases h
  · rw [decide_eq_false h1] at h; cases h
theorem set_add {c a : DCosts} {j : Int} (h0 : 0 ≤ j) (h1 : j < 16) (hr : rcostF (c.2.getD j.toNat 0) = true) : csetF a j (c.2.getD j.toNat 0) = (addC c a j, 0) := by
  unfold csetF
  rw [hr, rightF_iff.2 ⟨h0, h1⟩]
  rfl
/-! The document's machine -/
section
variable {s : List UInt8} {e n k : Int} {c2 c4 : DCosts} {i : Nat}
end
/-! What both come to -/
end Go.Ev
/- Configurations out of texts: all lines, in plain Lean. -/
set_option linter.unusedVariables false
set_option linter.unusedSimpArgs false
namespace Go.Ev
theorem drop_nil_le {α : Type} {l : List α} {i : Nat} (h : l.length ≤ i) : l.drop i = [] := List.drop_eq_nil_of_le h
def lineF (c : DConf) (s : List UInt8) : DConf × Bool := bif lineBad c (wordsF s) then (zeroConf, false) else (lineN c (wordsF s), true)
/-- Line by line: what is left, the line so far, its number, what was read. -/
def parGo : List UInt8 → List UInt8 → Int → DConf → DConf × Int × Int
  | [], cur, at', c => bif cur == [] then (c, 0, 0) else (zeroConf, at', 2)
  | b :: l, cur, at', c => bif b == 10 then (bif lineBad c (wordsF cur) then (zeroConf, at', 3) else parGo l [] (at' + 1) (lineN c (wordsF cur))) else parGo l (cur ++ [b]) at' c
def parEnd (s : List UInt8) (r : DConf × Int × Int) : DConf × Int × Int :=
  bif r.2.2 != (0 : Int) then r else bif (bif (printF r.1).2 != (0 : Int) then true else !((printF r.1).1 == s)) then (zeroConf, 0, 3) else (r.1, 0, 0)
def parseF (s : List UInt8) : DConf × Int × Int := bif decide ((s.length : Int) > 2000) then (zeroConf, 0, 4) else parEnd s (parGo s [] 1 zeroConf)
theorem index_no {b : UInt8} : ∀ {s : List UInt8}, b ∉ s → Lib.index s [b] = -1
  | [], _ => rfl
  | a :: s, h => by
    have h1 : b ≠ a := fun e => h (by rw [e]; simp)
    have h2 : b ∉ s := fun e => h (by simp [e])
    have hp : ([b] : List UInt8).isPrefixOf (a :: s) = false := by simp [List.isPrefixOf, h1]
    rw [Lib.index, hp, index_no h2]
    simp
theorem cut_none {b : UInt8} {s : List UInt8} (h : b ∉ s) : Lib.cut s [b] = (s, [], false) := by
  unfold Lib.cut
  rw [index_no h]
  simp
theorem line_split (b : UInt8) : ∀ s : List UInt8, b ∉ s ∨ ∃ a q, s = a ++ b :: q ∧ b ∉ a
  | [] => .inl (by simp)
  | c :: s => by
    by_cases hc : c = b
    · exact .inr ⟨[], s, by rw [hc]; rfl, by simp⟩
    · rcases line_split b s with h | ⟨a, q, h1, h2⟩
      · exact .inl (by rw [List.mem_cons]; rintro (e | e); exact hc e.symm; exact h e)
      · refine .inr ⟨c :: a, q, by rw [h1]; rfl, ?_⟩
        rw [List.mem_cons]
        rintro (e | e)
        · exact hc e.symm
        · exact h2 e
theorem par_line : ∀ (a cur q : List UInt8) (n : Int) (c : DConf), (10 : UInt8) ∉ a → parGo (a ++ 10 :: q) cur n c = bif lineBad c (wordsF (cur ++ a)) then (zeroConf, n, 3) else parGo q [] (n + 1) (lineN c (wordsF (cur ++ a)))
  | [], cur, q, n, c, _ => by rw [List.append_nil]; rfl
  | b :: a, cur, q, n, c, h => by
    have hb : (b == 10) = false := by
      have : b ≠ 10 := fun e => h (by rw [e]; simp)
      simpa using this
    rw [List.cons_append, parGo, hb]
    show parGo (a ++ 10 :: q) (cur ++ [b]) n c = _
    rw [par_line a (cur ++ [b]) q n c (fun e => h (by simp [e])), List.append_assoc]
    rfl
theorem par_last : ∀ (a cur : List UInt8) (n : Int) (c : DConf), (10 : UInt8) ∉ a → parGo a cur n c = bif cur ++ a == [] then (c, 0, 0) else (zeroConf, n, 2)
  | [], cur, n, c, _ => by rw [List.append_nil]; rfl
  | b :: a, cur, n, c, h => by
    have hb : (b == 10) = false := by
      have : b ≠ 10 := fun e => h (by rw [e]; simp)
      simpa using this
    rw [parGo, hb]
    show parGo a (cur ++ [b]) n c = _
    rw [par_last a (cur ++ [b]) n c (fun e => h (by simp [e])), List.append_assoc]
    rfl
/-- What the library cuts off. -/
theorem par_cut {s : List UInt8} (hs : s ≠ []) (n : Int) (c : DConf) : parGo s [] n c = bif !(Lib.cut s [10]).2.2 then (zeroConf, n, 2) else bif lineBad c (wordsF (Lib.cut s [10]).1) then (zeroConf, n, 3) else parGo (Lib.cut s [10]).2.1 [] (n + 1) (lineN c (wordsF (Lib.cut s [10]).1)) := by
  rcases line_split 10 s with h | ⟨a, q, rfl, h⟩
  · rw [cut_none h, par_last s [] n c h]
    have : (([] : List UInt8) ++ s == []) = false := by
      rw [List.nil_append]
      simpa using hs
    rw [this]
    rfl
  · rw [cut_at h, par_line a [] q n c h]
    rfl
/-! Round by round, with the library's cut -/
abbrev CpfS := (Int × Int × List UInt8 × Int × Unit) × (DConf × DConf × Unit)
def cpfStp (x : CpfS) : Ex × CpfS :=
  bif !(x.1.2.2.1 == []) then
    bif !(Lib.cut x.1.2.2.1 [10]).2.2 then (.ret, ((x.1.2.2.2.1, 2, x.1.2.2.1, x.1.2.2.2.1, ()), zeroConf, x.2.2.1, ()))
    else bif !(lineF x.2.2.1 (Lib.cut x.1.2.2.1 [10]).1).2 then (.ret, ((x.1.2.2.2.1, 3, x.1.2.2.1, x.1.2.2.2.1, ()), zeroConf, x.2.2.1, ()))
    else (.normal, ((x.1.1, x.1.2.1, (Lib.cut x.1.2.2.1 [10]).2.1, x.1.2.2.2.1 + 1, ()), x.2.1, (lineF x.2.2.1 (Lib.cut x.1.2.2.1 [10]).1).1, ()))
  else (.exit 0, x)
def cpfMu (x : CpfS) : Nat := x.1.2.2.1.length
def cpfPre (x : CpfS) : Prop := x.1.2.2.1.length ≤ 2000 ∧ 0 ≤ x.1.2.2.2.1 ∧ x.1.2.2.2.1 + x.1.2.2.1.length ≤ 5000
theorem cpfStp_ends (x : CpfS) : (cpfStp x).1 = .normal ∨ (cpfStp x).1 = .exit 0 ∨ (cpfStp x).1 = .ret := by
  unfold cpfStp
  cases !(x.1.2.2.1 == []) <;> cases !(Lib.cut x.1.2.2.1 [10]).2.2 <;> cases !(lineF x.2.2.1 (Lib.cut x.1.2.2.1 [10]).1).2 <;> simp
theorem cpf_go {x : CpfS} (hp : cpfPre x) (h : (cpfStp x).1 = .normal) : cpfPre (cpfStp x).2 ∧ cpfMu (cpfStp x).2 < cpfMu x := by
  obtain ⟨⟨e, e2, r, n, ⟨⟩⟩, c2, c, ⟨⟩⟩ := x
  obtain ⟨h1, h2, h3⟩ := hp
  simp only at h1 h2 h3
  unfold cpfStp at h ⊢
  simp only at h ⊢
  cases hr : !(r == []) with
  | false => rw [hr] at h; cases h
  | true =>
    rw [hr] at h
    cases hc : (Lib.cut r [10]).2.2 with
    | false => rw [hc] at h; cases h
    | true =>
      rw [hc] at h
      have hl := cut_less (t := [10]) (by simp) hc
      cases hb : (lineF c (Lib.cut r [10]).1).2 with
      | false => rw [hb] at h; cases h
      | true =>
        refine ⟨⟨?_, ?_, ?_⟩, ?_⟩
        all_goals simp only [cond_true, cond_false, Bool.not_true, cpfMu]
        all_goals omega
def cpfEnd (r : DConf × Int × Int) (p : Ex × CpfS) : Prop := (p.1 = .ret ∧ r = (zeroConf, p.2.1.1, p.2.1.2.1) ∧ p.2.2.1 = zeroConf ∧ (p.2.1.2.1 != (0 : Int)) = true) ∨ (p.1 = .exit 0 ∧ r = (p.2.2.2.1, 0, 0))
theorem cpf_run {r : DConf × Int × Int} : ∀ (n : Nat) (x : CpfS), (cpfPre x ∧ parGo x.1.2.2.1 [] x.1.2.2.2.1 x.2.2.1 = r) → cpfMu x < n → cpfEnd r (runF cpfStp n x) :=
  runF_inv fun x hx => by
    obtain ⟨hp, hr⟩ := hx
    have hgo := cpf_go hp
    obtain ⟨⟨e, e2, t, n, ⟨⟩⟩, c2, c, ⟨⟩⟩ := x
    simp only at hr
    by_cases ht : t = []
    · subst ht
      refine ⟨fun h => ?_, fun _ => .inr ⟨rfl, hr.symm⟩⟩
      cases h
    · have hne : (!(t == [])) = true := by
        have : (t == []) = false := by simpa using ht
        rw [this]; rfl
      rw [par_cut ht] at hr
      cases hc : (Lib.cut t [10]).2.2 with
      | false =>
        rw [hc] at hr
        refine ⟨fun h => ?_, fun _ => ?_⟩
        · unfold cpfStp at h
          simp only at h
          rw [hne, hc] at h
          cases h
        · unfold cpfStp
          simp only
          rw [hne, hc]
          exact .inl ⟨rfl, hr.symm, rfl, rfl⟩
      | true =>
        rw [hc] at hr
        simp only [Bool.not_true, cond_false] at hr
        cases hb : lineBad c (wordsF (Lib.cut t [10]).1) with
        | true =>
          have hl : lineF c (Lib.cut t [10]).1 = (zeroConf, false) := by unfold lineF; rw [hb]; rfl
          rw [hb] at hr
          refine ⟨fun h => ?_, fun _ => ?_⟩
          · unfold cpfStp at h
            simp only at h
            rw [hne, hc, hl] at h
            cases h
          · unfold cpfStp
            simp only
            rw [hne, hc, hl]
            exact .inl ⟨rfl, hr.symm, rfl, rfl⟩
        | false =>
          have hl : lineF c (Lib.cut t [10]).1 = (lineN c (wordsF (Lib.cut t [10]).1), true) := by unfold lineF; rw [hb]; rfl
          rw [hb] at hr
          have hst : cpfStp ((e, e2, t, n, ()), c2, c, ()) = (.normal, ((e, e2, (Lib.cut t [10]).2.1, n + 1, ()), c2, lineN c (wordsF (Lib.cut t [10]).1), ())) := by
            unfold cpfStp
            simp only
            rw [hne, hc, hl]
            rfl
          refine ⟨fun h => ⟨⟨(hgo h).1, ?_⟩, (hgo h).2⟩, fun h => ?_⟩
          · have h2 : cpfStp ((e, e2, t, n, PUnit.unit), c2, c, PUnit.unit) = _ := hst
            rw [h2]
            exact hr
          · have h2 : cpfStp ((e, e2, t, n, PUnit.unit), c2, c, PUnit.unit) = _ := hst
            rw [h2] at h
            exact absurd rfl h
def cpfSt (s : List UInt8) : CpfS := ((0, 0, s, 1, ()), zeroConf, zeroConf, ())
theorem cpf_all {s : List UInt8} (h : s.length ≤ 2000) : cpfPre (cpfSt s) ∧ cpfEnd (parGo s [] 1 zeroConf) (runF cpfStp (cpfMu (cpfSt s) + 1) (cpfSt s)) := by
  have hp : cpfPre (cpfSt s) := ⟨h, by show (0 : Int) ≤ 1; decide, by show (1 : Int) + (s.length : Int) ≤ 5000; omega⟩
  exact ⟨hp, cpf_run _ _ ⟨hp, rfl⟩ (Nat.lt_succ_self _)⟩
theorem itoa_nat {n : Int} (h : 0 ≤ n) : itoaF n = natT n.toNat := by
  unfold itoaF
  rw [decide_eq_false (by omega)]
  rfl
theorem numBad_no {n : Int} (h : numBad n = false) : 0 ≤ n ∧ n ≤ 1073741824 := by
  unfold numBad at h
  by_cases h0 : n < 0
  · rw [decide_eq_true h0] at h; cases h
  · by_cases h1 : n > 1073741824
    · rw [decide_eq_false h0, decide_eq_true h1] at h; cases h
    · omega
theorem head_text {c : DConf} (h1 : numBad c.2.1.1 = false) (h2 : numBad c.2.1.2.1 = false) (h3 : numBad c.2.1.2.2.1 = false) (h4 : numBad c.2.1.2.2.2 = false) : [110, 111, 100, 101, 32] ++ textN (withF 0 c.1) ++ [10, 114, 117, 108, 101, 115, 32] ++ natT c.2.1.1.toNat ++ [32] ++ natT c.2.1.2.1.toNat ++ [32] ++ natT c.2.1.2.2.1.toNat ++ [32] ++ natT c.2.1.2.2.2.toNat ++ [10] = headT c := by
  unfold headT
  rw [itoa_nat (numBad_no h1).1, itoa_nat (numBad_no h2).1, itoa_nat (numBad_no h3).1, itoa_nat (numBad_no h4).1]
  simp only [List.append_assoc, List.cons_append, List.nil_append]
end Go.Ev
/- The document's way to read a configuration: words, numbers, a line. -/
set_option linter.unusedVariables false
set_option linter.unusedSimpArgs false
namespace Go.Ev
theorem cur_more {s : List UInt8} {a i : Nat} (h : i < s.length) (ha : a ≤ i) : (s.take (i + 1)).drop a = (s.take i).drop a ++ [s.getD i 0] := by
  rw [take_more h, List.drop_append_of_le_length (by rw [List.length_take]; omega)]
/-! Words -/
abbrev KcS := (List UInt8 × Int × Int × Int × Unit) × (List (List UInt8) × Unit)
def kcB (x : KcS) : Int := ((x.1.1.getD x.1.2.2.2.1.toNat 0).toNat : Int)
def kcStp (x : KcS) : Ex × KcS :=
  bif decide (x.1.2.2.2.1 < x.1.2.2.1) then
    bif kcB x == (32 : Int) then (.normal, ((x.1.1, x.1.2.2.2.1 + 1, x.1.2.2.1, x.1.2.2.2.1 + 1, ()), x.2.1 ++ [(x.1.1.take x.1.2.2.2.1.toNat).drop x.1.2.1.toNat], ()))
    else (.normal, ((x.1.1, x.1.2.1, x.1.2.2.1, x.1.2.2.2.1 + 1, ()), x.2.1, ()))
  else (.exit 0, x)
def kcMu (x : KcS) : Nat := (x.1.2.2.1 - x.1.2.2.2.1).toNat
def kcPre (x : KcS) : Prop := 0 ≤ x.1.2.1 ∧ x.1.2.1 ≤ x.1.2.2.2.1 ∧ x.1.2.2.2.1 ≤ x.1.2.2.1 ∧ x.1.2.2.1 = (x.1.1.length : Int) ∧ x.1.2.2.1 ≤ 10000 ∧ (x.2.1.length : Int) ≤ x.1.2.2.2.1
theorem kcStp_ends (x : KcS) : (kcStp x).1 = .normal ∨ (kcStp x).1 = .exit 0 := by
  unfold kcStp
  cases decide (x.1.2.2.2.1 < x.1.2.2.1) <;> cases kcB x == (32 : Int) <;> simp
theorem kc_go {x : KcS} (hp : kcPre x) (h : (kcStp x).1 = .normal) : kcPre (kcStp x).2 ∧ kcMu (kcStp x).2 < kcMu x := by
  have hc : ∀ b : Bool, (kcB x == (32 : Int)) = b → kcPre (kcStp x).2 ∧ kcMu (kcStp x).2 < kcMu x := by
    intro b hb
    obtain ⟨⟨s, a, len, i, ⟨⟩⟩, out, ⟨⟩⟩ := x
    obtain ⟨h1, h2, h3, h4, h5, h6⟩ := hp
    simp only at h1 h2 h3 h4 h5 h6
    unfold kcStp at h ⊢
    rw [hb] at h ⊢
    simp only at h ⊢
    by_cases hlt : i < len
    · rw [decide_eq_true hlt] at h ⊢
      cases b with
      | true =>
        refine ⟨⟨?_, ?_, ?_, h4, h5, ?_⟩, ?_⟩
        all_goals simp only [cond_true, kcMu, List.length_append, List.length_cons, List.length_nil]
        all_goals omega
      | false =>
        refine ⟨⟨?_, ?_, ?_, h4, h5, ?_⟩, ?_⟩
        all_goals simp only [cond_true, cond_false, kcMu]
        all_goals omega
    · rw [decide_eq_false hlt] at h
      cases h
  exact hc _ rfl
def kcEnd (s : List UInt8) (p : Ex × KcS) : Prop := p.1 = .exit 0 ∧ p.2.1.1 = s ∧ 0 ≤ p.2.1.2.1 ∧ p.2.1.2.1 ≤ s.length ∧ p.2.2.1.length ≤ s.length ∧ p.2.2.1 ++ [s.drop p.2.1.2.1.toNat] = wordsF s
theorem kc_run {s : List UInt8} : ∀ (n : Nat) (x : KcS), (kcPre x ∧ x.1.1 = s ∧ x.2.1 ++ wordsGo (s.drop x.1.2.2.2.1.toNat) ((s.take x.1.2.2.2.1.toNat).drop x.1.2.1.toNat) = wordsF s) → kcMu x < n → kcEnd s (runF kcStp n x) :=
  runF_inv fun x hx => by
    obtain ⟨hp, hs, hw⟩ := hx
    have hgo := kc_go hp
    obtain ⟨⟨s', a, len, i, ⟨⟩⟩, out, ⟨⟩⟩ := x
    obtain ⟨h1, h2, h3, h4, h5, h6⟩ := hp
    simp only at h1 h2 h3 h4 h5 h6 hs hw
    subst hs
    by_cases hlt : i < len
    · have hn : i.toNat < s'.length := by omega
      have e1 : (i + 1).toNat = i.toNat + 1 := by omega
      rw [drop_at hn, wordsGo] at hw
      have hb : kcB ((s', a, len, i, ()), out, ()) = ((s'.getD i.toNat 0).toNat : Int) := rfl
      have hcase : (((s'.getD i.toNat 0).toNat : Int) == (32 : Int)) = (s'.getD i.toNat 0 == 32) := by
        rw [Bool.eq_iff_iff]
        simp only [beq_iff_eq]
        constructor
        · intro h
          apply UInt8.toNat_inj.1
          show _ = 32
          omega
        · intro h
          rw [h]; rfl
      have hst : kcStp ((s', a, len, i, ()), out, ()) = bif s'.getD i.toNat 0 == 32 then (.normal, ((s', i + 1, len, i + 1, ()), out ++ [(s'.take i.toNat).drop a.toNat], ())) else (.normal, ((s', a, len, i + 1, ()), out, ())) := by
        unfold kcStp
        rw [hb, hcase]
        simp only
        rw [decide_eq_true hlt]
        rfl
      have h2' : kcStp ((s', a, len, i, PUnit.unit), out, PUnit.unit) = _ := hst
      refine ⟨fun h => ⟨⟨(hgo h).1, ?_⟩, (hgo h).2⟩, fun h => ?_⟩
      · rw [h2']
        cases hc : s'.getD i.toNat 0 == 32 with
        | true =>
          rw [hc] at hw
          refine ⟨rfl, ?_⟩
          show (out ++ [(s'.take i.toNat).drop a.toNat]) ++ wordsGo (s'.drop (i + 1).toNat) ((s'.take (i + 1).toNat).drop (i + 1).toNat) = _
          rw [e1, drop_nil_le (l := s'.take (i.toNat + 1)) (by rw [List.length_take]; omega), List.append_assoc]
          exact hw
        | false =>
          rw [hc] at hw
          refine ⟨rfl, ?_⟩
          show out ++ wordsGo (s'.drop (i + 1).toNat) ((s'.take (i + 1).toNat).drop a.toNat) = _
          rw [e1, cur_more hn (by omega)]
          exact hw
      · rw [h2'] at h
        cases hc : s'.getD i.toNat 0 == 32 with
        | true => rw [hc] at h; exact absurd rfl h
        | false => rw [hc] at h; exact absurd rfl h
    · have hi : i = len := by omega
      refine ⟨fun h => ?_, fun _ => ?_⟩
      · unfold kcStp at h
        simp only at h
        rw [decide_eq_false hlt] at h
        cases h
      · have hst : kcStp ((s', a, len, i, PUnit.unit), out, PUnit.unit) = (.exit 0, ((s', a, len, i, ()), out, ())) := by
          unfold kcStp
          simp only
          rw [decide_eq_false hlt]
          rfl
        rw [hst]
        refine ⟨rfl, rfl, h1, ?_, ?_, ?_⟩
        · show a ≤ (s'.length : Int); omega
        · show out.length ≤ s'.length; omega
        · show out ++ [s'.drop a.toNat] = _
          rw [← hw, drop_nil_le (l := s') (i := i.toNat) (by omega), List.take_of_length_le (by omega)]
          rfl
def kcSt (s : List UInt8) : KcS := ((s, 0, (s.length : Int), 0, ()), [], ())
theorem kc_all {s : List UInt8} (h : s.length ≤ 10000) : kcPre (kcSt s) ∧ kcEnd s (runF kcStp (kcMu (kcSt s) + 1) (kcSt s)) := by
  have hp : kcPre (kcSt s) := ⟨Int.le_refl _, Int.le_refl _, by show (0 : Int) ≤ (s.length : Int); omega, rfl, by show (s.length : Int) ≤ _; omega, Int.le_refl _⟩
  exact ⟨hp, kc_run _ _ ⟨hp, rfl, by simp [kcSt, wordsF]⟩ (Nat.lt_succ_self _)⟩
/-! Numbers -/
theorem digN_head : ∀ (f n : Nat), n < 10 ^ f → 0 < f → (digN f n).getD 0 0 = 48 → n = 0
  | 0, _, _, h, _ => by omega
  | f + 1, n, h, _, hd => by
    unfold digN at hd
    cases hb : Nat.blt n 10 with
    | true =>
      have hn : n < 10 := by rw [Nat.blt_eq] at hb; exact hb
      rw [hb] at hd
      have h1 : (UInt8.ofNat (48 + n)) = 48 := hd
      have h2 := dig_toNat hn
      rw [h1] at h2
      have : (48 : UInt8).toNat = 48 := rfl
      omega
    | false =>
      rw [hb] at hd
      have hn : ¬ n < 10 := fun hh => by rw [show Nat.blt n 10 = true by rw [Nat.blt_eq]; exact hh] at hb; cases hb
      have hf : 0 < f := by
        rcases Nat.eq_zero_or_pos f with h0 | h0
        · subst h0; omega
        · exact h0
      have hne := digN_ne f (n / 10) hf
      have h1 : (digN f (n / 10) ++ [UInt8.ofNat (48 + n % 10)]).getD 0 0 = (digN f (n / 10)).getD 0 0 := by
        cases hl : digN f (n / 10) with
        | nil => exact absurd hl hne
        | cons a l => rfl
      have h2 : (digN f (n / 10) ++ [UInt8.ofNat (48 + n % 10)]).getD 0 0 = 48 := hd
      rw [h1] at h2
      have := digN_head f (n / 10) (by rw [Nat.pow_succ] at h; omega) hf h2
      omega
theorem lz_digits {n : Nat} (h : n < 10 ^ 20) : lzF (natT n) = false := by
  unfold lzF
  cases hc : (((natT n).getD 0 0).toNat : Int) == 48 with
  | false => rfl
  | true =>
    have h1 : (natT n).getD 0 0 = 48 := by
      apply UInt8.toNat_inj.1
      have : (((natT n).getD 0 0).toNat : Int) = 48 := by simpa using hc
      show _ = 48
      omega
    have := digN_head 20 n h (by omega) h1
    subst this
    decide
theorem num_last {top : Int} : ∀ (k : Nat) (s : List UInt8), s.length = k → ∀ n, numGo top s 0 = some n → s ≠ [] → lzF s = false → ∀ f, n.toNat < 10 ^ f → 0 < f → digN f n.toNat = s
  | 0, s, hk, n, _, hne, _, _, _, _ => absurd (List.length_eq_zero_iff.1 hk) hne
  | k + 1, s, hk, n, hn, hne, hlz, f, hf, hf0 => by
    obtain ⟨l, b, rfl⟩ : ∃ l b, s = l ++ [b] := ⟨s.dropLast, s.getLast hne, (List.dropLast_concat_getLast hne).symm⟩
    rw [num_more] at hn
    cases hm : numGo top l 0 with
    | none => rw [hm] at hn; cases hn
    | some m =>
      rw [hm] at hn
      simp only at hn
      rw [← badD_eq] at hn
      have hm0 := num_pos l 0 (Int.le_refl _) m hm
      cases hc : badD top (b.toNat : Int) m with
      | true => rw [hc] at hn; cases hn
      | false =>
        rw [hc] at hn
        have hbd := badD_no hc
        simp only [cond_false, Option.some.injEq] at hn
        have hb8 := b.toNat_lt
        have hbb : UInt8.ofNat (48 + (b.toNat - 48)) = b := by
          apply UInt8.toNat_inj.1
          rw [UInt8.toNat_ofNat']
          omega
        obtain ⟨g, rfl⟩ : ∃ g, f = g + 1 := ⟨f - 1, by omega⟩
        by_cases hl : l = []
        · subst hl
          simp only [numGo, Option.some.injEq] at hm
          subst hm
          unfold digN
          rw [show Nat.blt n.toNat 10 = true by rw [Nat.blt_eq]; omega]
          show [UInt8.ofNat (48 + n.toNat)] = [b]
          rw [show n.toNat = b.toNat - 48 by omega, hbb]
        · have hlen : l.length = k := by rw [List.length_append] at hk; simp at hk; omega
          have hpos := List.length_pos_iff.2 hl
          have hhead : (l ++ [b]).getD 0 0 = l.getD 0 0 := by
            cases l with
            | nil => exact absurd rfl hl
            | cons a l => rfl
          have h48 : (((l.getD 0 0).toNat : Int) == 48) = false := by
            unfold lzF at hlz
            rw [hhead] at hlz
            cases hh : ((l.getD 0 0).toNat : Int) == 48 with
            | false => rfl
            | true =>
              rw [hh] at hlz
              have : ¬ ((l ++ [b]).length : Int) > 1 := of_decide_eq_false hlz
              rw [List.length_append] at this
              simp at this
              omega
          have hlz2 : lzF l = false := by unfold lzF; rw [h48]; rfl
          have hq : m ≥ 1 := by
            rcases Int.lt_or_le 0 m with h0 | h0
            · omega
            · exfalso
              have hm1 : m = 0 := by omega
              subst hm1
              have := num_last k l hlen 0 hm hl hlz2 1 (by simp) (by omega)
              rw [← this] at h48
              revert h48
              decide
          have hg0 : 0 < g := by
            rcases Nat.eq_zero_or_pos g with h0 | h0
            · subst h0; simp at hf; omega
            · exact h0
          have hdiv : n.toNat / 10 = m.toNat := by omega
          have hmod : n.toNat % 10 = b.toNat - 48 := by omega
          have hg : m.toNat < 10 ^ g := by rw [Nat.pow_succ] at hf; omega
          unfold digN
          rw [show Nat.blt n.toNat 10 = false by
            cases hh : Nat.blt n.toNat 10 with
            | false => rfl
            | true => rw [Nat.blt_eq] at hh; omega]
          show digN g (n.toNat / 10) ++ [UInt8.ofNat (48 + n.toNat % 10)] = l ++ [b]
          rw [hdiv, hmod, num_last k l hlen m hm hl hlz2 g hg hg0, hbb]
theorem num_top {top : Int} (ht : 0 ≤ top) : ∀ (s : List UInt8) (n v : Int), 0 ≤ n → n ≤ top * 10 + 9 → numGo top s n = some v → v ≤ top * 10 + 9
  | [], n, v, _, h, hv => by simp only [numGo, Option.some.injEq] at hv; omega
  | b :: l, n, v, h0, h, hv => by
    rw [numGo, ← badD_eq] at hv
    cases hc : badD top (b.toNat : Int) n with
    | true => rw [hc] at hv; cases hv
    | false =>
      rw [hc] at hv
      have := badD_no hc
      exact num_top ht l _ v (by omega) (by omega) hv
/-- A number's text is the word just if it has no 0 too many. -/
theorem num_text {s : List UInt8} {n : Int} (h : numGo 1073741824 s 0 = some n) (hs : s ≠ []) : (natT n.toNat == s) = !lzF s := by
  have hn := num_top (top := 1073741824) (by omega) s 0 n (Int.le_refl _) (by omega) h
  have hb : n.toNat < 10 ^ 20 := by
    have : (10 : Nat) ^ 20 = 100000000000000000000 := by decide
    omega
  cases hlz : lzF s with
  | false =>
    rw [show natT n.toNat = s from num_last s.length s rfl n h hs hlz 20 hb (by omega)]
    simp
  | true =>
    cases he : natT n.toNat == s with
    | false => rfl
    | true =>
      have e : natT n.toNat = s := by simpa using he
      have := lz_digits hb
      rw [e, hlz] at this
      cases this
end Go.Ev
/- The document's way to read a configuration: a number's letters, a line. -/
set_option linter.unusedVariables false
set_option linter.unusedSimpArgs false
namespace Go.Ev
abbrev PnS := (List UInt8 × Int × Int × Int × Int × Unit) × Unit
def pnB (x : PnS) : Int := ((x.1.1.getD x.1.2.2.2.2.1.toNat 0).toNat : Int)
def pnStp (x : PnS) : Ex × PnS :=
  bif decide (x.1.2.2.2.2.1 < x.1.2.2.2.1) then
    bif badD 1073741824 (pnB x) x.1.2.2.1 then (.ret, ((x.1.1, -1, x.1.2.2.1, x.1.2.2.2.1, x.1.2.2.2.2.1, ()), ()))
    else (.normal, ((x.1.1, x.1.2.1, x.1.2.2.1 * 10 + (pnB x - 48), x.1.2.2.2.1, x.1.2.2.2.2.1 + 1, ()), ()))
  else (.exit 0, x)
def pnMu (x : PnS) : Nat := (x.1.2.2.2.1 - x.1.2.2.2.2.1).toNat
def pnPre (x : PnS) : Prop := 0 ≤ x.1.2.2.2.2.1 ∧ x.1.2.2.2.2.1 ≤ x.1.2.2.2.1 ∧ x.1.2.2.2.1 = (x.1.1.length : Int) ∧ x.1.2.2.2.1 ≤ 4611686018427387904 ∧ 0 ≤ x.1.2.2.1 ∧ x.1.2.2.1 ≤ 10737418249
theorem pnStp_ends (x : PnS) : (pnStp x).1 = .normal ∨ (pnStp x).1 = .exit 0 ∨ (pnStp x).1 = .ret := by
  unfold pnStp
  cases decide (x.1.2.2.2.2.1 < x.1.2.2.2.1) <;> cases badD 1073741824 (pnB x) x.1.2.2.1 <;> simp
theorem pn_go {x : PnS} (hp : pnPre x) (h : (pnStp x).1 = .normal) : pnPre (pnStp x).2 ∧ pnMu (pnStp x).2 < pnMu x := by
  obtain ⟨⟨s, r, n, len, i, ⟨⟩⟩, ⟨⟩⟩ := x
  obtain ⟨h1, h2, h3, h4, h5, h6⟩ := hp
  simp only at h1 h2 h3 h4 h5 h6
  unfold pnStp at h ⊢
  simp only at h ⊢
  by_cases hlt : i < len
  · rw [decide_eq_true hlt] at h ⊢
    cases hc : badD 1073741824 (pnB ((s, r, n, len, i, ()), ())) n with
    | true => rw [hc] at h; cases h
    | false =>
      have := badD_no hc
      generalize pnB ((s, r, n, len, i, ()), ()) = e at this ⊢
      refine ⟨⟨?_, ?_, h3, h4, ?_, ?_⟩, ?_⟩
      all_goals simp only [cond_true, cond_false, pnMu]
      all_goals omega
  · rw [decide_eq_false hlt] at h
    cases h
def pnEnd (s : List UInt8) (o : Option Int) (p : Ex × PnS) : Prop := match o with
  | none => p.1 = .ret ∧ p.2.1.2.1 = -1
  | some n => p.1 = .exit 0 ∧ p.2.1.2.2.1 = n ∧ p.2.1.1 = s
theorem pn_run {s : List UInt8} {o : Option Int} : ∀ (n : Nat) (x : PnS), (pnPre x ∧ x.1.1 = s ∧ numGo 1073741824 (x.1.1.drop x.1.2.2.2.2.1.toNat) x.1.2.2.1 = o) → pnMu x < n → pnEnd s o (runF pnStp n x) :=
  runF_inv fun x hx => by
    obtain ⟨hp, hs, ho⟩ := hx
    have hgo := pn_go hp
    obtain ⟨⟨s', r, n, len, i, ⟨⟩⟩, ⟨⟩⟩ := x
    obtain ⟨h1, h2, h3, h4, h5, h6⟩ := hp
    simp only at h1 h2 h3 h4 h5 h6 ho hs
    have hs' := hs.symm
    subst hs'
    by_cases hlt : i < len
    · have hn : i.toNat < s.length := by omega
      rw [drop_at hn, numGo, ← badD_eq] at ho
      have hb : pnB ((s, r, n, len, i, ()), ()) = ((s.getD i.toNat 0).toNat : Int) := rfl
      refine ⟨fun h => ⟨⟨(hgo h).1, ?_⟩, (hgo h).2⟩, fun h => ?_⟩
      · unfold pnStp at h ⊢
        simp only at h ⊢
        rw [decide_eq_true hlt] at h ⊢
        simp only [cond_true] at h ⊢
        rw [hb] at h ⊢
        cases hc : badD 1073741824 ((s.getD i.toNat 0).toNat : Int) n with
        | true => rw [hc] at h; cases h
        | false =>
          rw [hc] at ho
          simp only [cond_false] at ho ⊢
          rw [show (i + 1).toNat = i.toNat + 1 by omega]
          exact ⟨trivial, ho⟩
      · unfold pnStp at h ⊢
        simp only at h ⊢
        rw [decide_eq_true hlt] at h ⊢
        simp only [cond_true] at h ⊢
        rw [hb] at h ⊢
        cases hc : badD 1073741824 ((s.getD i.toNat 0).toNat : Int) n with
        | false => rw [hc] at h; exact absurd rfl h
        | true =>
          rw [hc] at ho
          simp only [cond_true] at ho
          subst ho
          exact ⟨rfl, rfl⟩
    · have hi : s.drop i.toNat = [] := List.drop_eq_nil_of_le (by omega)
      rw [hi, numGo] at ho
      subst ho
      refine ⟨fun h => ?_, fun _ => ?_⟩
      · unfold pnStp at h
        simp only at h
        rw [decide_eq_false hlt] at h
        cases h
      · unfold pnStp
        simp only
        rw [decide_eq_false hlt]
        exact ⟨rfl, rfl, rfl⟩
def pnSt (s : List UInt8) : PnS := ((s, 0, 0, (s.length : Int), 0, ()), ())
theorem pn_all {s : List UInt8} (h : s.length ≤ 4611686018427387904) : pnPre (pnSt s) ∧ pnEnd s (numGo 1073741824 s 0) (runF pnStp (pnMu (pnSt s) + 1) (pnSt s)) := by
  have hp : pnPre (pnSt s) := ⟨Int.le_refl _, by show (0 : Int) ≤ (s.length : Int); omega, rfl, by show (s.length : Int) ≤ _; omega, Int.le_refl _, by show (0 : Int) ≤ _; decide⟩
  exact ⟨hp, pn_run _ _ ⟨hp, rfl, rfl⟩ (Nat.lt_succ_self _)⟩
/-! A line's numbers -/
abbrev LnS := (List (List UInt8) × Int × Unit) × (List Int × Unit)
def lnStp (x : LnS) : Ex × LnS :=
  bif (bif decide (x.1.2.1 < (x.1.1.length : Int)) then decide (x.1.2.1 ≤ (4 : Int)) else false) then (.normal, ((x.1.1, x.1.2.1 + 1, ()), x.2.1.set (x.1.2.1 - 1).toNat (numP (x.1.1.getD x.1.2.1.toNat [])), ()))
  else (.exit 0, x)
def lnMu (x : LnS) : Nat := (5 - x.1.2.1).toNat
def vsN (l : List (List UInt8)) (i : Int) (k : Nat) : Int := bif decide ((k : Int) < i) then numP (l.getD k []) else 0
def nsN (l : List (List UInt8)) (i : Int) : List Int := [vsN l i 1, vsN l i 2, vsN l i 3, vsN l i 4]
def lnPre (x : LnS) : Prop := 1 ≤ x.1.2.1 ∧ x.1.2.1 ≤ 5 ∧ (x.1.2.1 ≤ (x.1.1.length : Int) ∨ x.1.2.1 = 1) ∧ x.2.1 = nsN x.1.1 x.1.2.1
theorem lnStp_ends (x : LnS) : (lnStp x).1 = .normal ∨ (lnStp x).1 = .exit 0 := by
  unfold lnStp
  cases (bif decide (x.1.2.1 < (x.1.1.length : Int)) then decide (x.1.2.1 ≤ (4 : Int)) else false) <;> simp
theorem ns_set (l : List (List UInt8)) {i : Int} (h1 : 1 ≤ i) (h2 : i ≤ 4) : (nsN l i).set (i - 1).toNat (numP (l.getD i.toNat [])) = nsN l (i + 1) := by
  have : i = 1 ∨ i = 2 ∨ i = 3 ∨ i = 4 := by omega
  rcases this with rfl | rfl | rfl | rfl <;> rfl
theorem ln_both {a b : Bool} (h : (bif a then b else false) = true) : a = true ∧ b = true := by cases a <;> simp_all
theorem ln_go {x : LnS} (hp : lnPre x) (h : (lnStp x).1 = .normal) : lnPre (lnStp x).2 ∧ lnMu (lnStp x).2 < lnMu x := by
  obtain ⟨⟨l, i, ⟨⟩⟩, m, ⟨⟩⟩ := x
  obtain ⟨h1, h2, h3, h4⟩ := hp
  simp only at h1 h2 h3 h4
  unfold lnStp at h ⊢
  simp only at h ⊢
  cases hc : (bif decide (i < (l.length : Int)) then decide (i ≤ (4 : Int)) else false) with
  | false => rw [hc] at h; cases h
  | true =>
    obtain ⟨c1, c2⟩ := ln_both hc
    have c1' := of_decide_eq_true c1
    have c2' := of_decide_eq_true c2
    refine ⟨⟨?_, ?_, ?_, ?_⟩, ?_⟩
    · show 1 ≤ i + 1; omega
    · show i + 1 ≤ 5; omega
    · show i + 1 ≤ (l.length : Int) ∨ _; omega
    · show m.set (i - 1).toNat (numP (l.getD i.toNat [])) = nsN l (i + 1)
      rw [h4]
      exact ns_set l h1 c2'
    · show (5 - (i + 1)).toNat < (5 - i).toNat
      omega
def lnEnd (l : List (List UInt8)) (p : Ex × LnS) : Prop := p.1 = .exit 0 ∧ p.2.1.1 = l ∧ ∃ i : Int, 1 ≤ i ∧ i ≤ 5 ∧ (i ≤ (l.length : Int) ∨ i = 1) ∧ (i < (l.length : Int) → 4 < i) ∧ p.2.2.1 = nsN l i
theorem ln_run {l : List (List UInt8)} : ∀ (n : Nat) (x : LnS), (lnPre x ∧ x.1.1 = l) → lnMu x < n → lnEnd l (runF lnStp n x) :=
  runF_inv fun x hx => by
    obtain ⟨hp, hl⟩ := hx
    have hgo := ln_go hp
    obtain ⟨⟨l', i, ⟨⟩⟩, m, ⟨⟩⟩ := x
    obtain ⟨h1, h2, h3, h4⟩ := hp
    simp only at h1 h2 h3 h4 hl
    subst hl
    refine ⟨fun h => ⟨⟨(hgo h).1, ?_⟩, (hgo h).2⟩, fun h => ?_⟩
    · unfold lnStp at h ⊢
      simp only at h ⊢
      cases hc : (bif decide (i < (l'.length : Int)) then decide (i ≤ (4 : Int)) else false) with
      | false => rw [hc] at h; cases h
      | true => rfl
    · unfold lnStp at h ⊢
      simp only at h ⊢
      cases hc : (bif decide (i < (l'.length : Int)) then decide (i ≤ (4 : Int)) else false) with
      | true => rw [hc] at h; exact absurd rfl h
      | false =>
        refine ⟨rfl, rfl, i, h1, h2, h3, fun hlt => ?_, h4⟩
        rw [decide_eq_true hlt] at hc
        have : ¬ i ≤ 4 := of_decide_eq_false hc
        omega
def lnSt (l : List (List UInt8)) : LnS := ((l, 1, ()), [0, 0, 0, 0], ())
theorem ln_all (l : List (List UInt8)) : lnPre (lnSt l) ∧ lnEnd l (runF lnStp (lnMu (lnSt l) + 1) (lnSt l)) := by
  have hp : lnPre (lnSt l) := ⟨Int.le_refl _, by show (1 : Int) ≤ 5; decide, .inr rfl, rfl⟩
  exact ⟨hp, ln_run _ _ ⟨hp, rfl⟩ (Nat.lt_succ_self _)⟩
/-! What the document's line makes of it -/
def nodeR (s : List UInt8) : Int := bif nodeBad s then -1 else nodeP s
def lineR (c : DConf) (w : List (List UInt8)) : DConf × Bool :=
  bif isLine w wNode 2 then ((nodeR (w.getD 1 []), c.2), decide (nodeR (w.getD 1 []) ≥ 0))
  else bif isLine w wRules 5 then ((c.1, rulesP w, c.2.2), !lineBad c w)
  else bif (bif (bif isLine w wLink 3 then decide (numP (w.getD 2 []) ≥ 0) else false) then decide (numP (w.getD 2 []) ≤ 65536) else false) then ((c.1, c.2.1, (csetF c.2.2 (nodeR (w.getD 1 [])) (IntKind.wrap IntKind.u32 (numP (w.getD 2 [])))).1), (csetF c.2.2 (nodeR (w.getD 1 [])) (IntKind.wrap IntKind.u32 (numP (w.getD 2 [])))).2 == (0 : Int))
  else (c, false)
theorem lowest_in (s : Int) (h : ((elemsF s 16).length : Int) = 1) : 0 ≤ lowestF s := by
  unfold lowestF
  cases hl : elemsF s 16 with
  | nil => rw [hl] at h; cases h
  | cons j l => exact (elem_in (Nat.le_refl 16) (by rw [hl]; simp)).1
theorem node_good {s : List UInt8} (h : nodeBad s = false) : 0 ≤ nodeP s := by
  unfold nodeBad at h
  cases hc : (nparseF s).2 != (0 : Int) with
  | true => rw [hc] at h; cases h
  | false =>
    rw [hc] at h
    have h2 : (((elemsF (nparseF s).1 16).length : Int) != 1) = false := h
    exact lowest_in _ (by simpa using h2)
theorem set_none (c : DCosts) (v : Int) : ((csetF c (-1) v).2 == (0 : Int)) = false := by
  unfold csetF
  rfl
theorem line_same (c : DConf) (w : List (List UInt8)) : (lineR c w).2 = !lineBad c w ∧ (lineBad c w = false → (lineR c w).1 = lineN c w) := by
  cases hA : isLine w wNode 2 with
  | true =>
    obtain ⟨b1, b2⟩ := lb_node (c := c) hA
    unfold lineR
    rw [hA, b1, b2]
    simp only [cond_true]
    unfold nodeR
    cases hb : nodeBad (w.getD 1 []) with
    | true => exact ⟨rfl, fun h => by cases h⟩
    | false =>
      have := node_good hb
      exact ⟨decide_eq_true this, fun _ => rfl⟩
  | false =>
    cases hB : isLine w wRules 5 with
    | true =>
      obtain ⟨b1, b2⟩ := lb_rules (c := c) hA hB
      unfold lineR
      rw [hA, hB, b2]
      exact ⟨rfl, fun _ => rfl⟩
    | false =>
      cases hC : isLine w wLink 3 with
      | false =>
        rw [lb_none hA hB hC]
        unfold lineR
        rw [hA, hB, hC]
        exact ⟨rfl, fun h => by cases h⟩
      | true =>
        obtain ⟨b1, b2⟩ := lb_link (c := c) hA hB hC
        unfold lineR
        rw [hA, hB, hC, b1, b2]
        simp only [cond_true, cond_false]
        by_cases hneg : numP (w.getD 2 []) < 0
        · rw [show negP (numP (w.getD 2 [])) = true from decide_eq_true hneg, decide_eq_false (show ¬ numP (w.getD 2 []) ≥ 0 by omega)]
          cases nodeBad (w.getD 1 []) <;> exact ⟨rfl, fun h => by cases h⟩
        · rw [show negP (numP (w.getD 2 [])) = false from decide_eq_false hneg, decide_eq_true (show numP (w.getD 2 []) ≥ 0 by omega)]
          by_cases hbig : numP (w.getD 2 []) ≤ 65536
          · rw [decide_eq_true hbig, decide_eq_false (show ¬ numP (w.getD 2 []) > 65536 by omega)]
            unfold nodeR setP
            cases hb : nodeBad (w.getD 1 []) with
            | true =>
              simp only [cond_true, cond_false]
              exact ⟨set_none _ _, fun h => by cases h⟩
            | false =>
              simp only [cond_true, cond_false]
              refine ⟨?_, fun _ => by first | rfl | trivial⟩
              unfold bne
              rw [Bool.not_not]
          · rw [decide_eq_false hbig, decide_eq_true (show numP (w.getD 2 []) > 65536 by omega)]
            cases nodeBad (w.getD 1 []) <;> exact ⟨rfl, fun h => by cases h⟩
theorem min4 (a b c d : Int) : decide ((if d < if c < if b < a then b else a then c else if b < a then b else a then d else if c < if b < a then b else a then c else if b < a then b else a) ≥ (0 : Int)) = !(bif negP a then true else bif negP b then true else bif negP c then true else negP d) := by
  unfold negP
  by_cases ha : a < 0
  · rw [decide_eq_true ha]
    simp only [cond_true, Bool.not_true]
    exact decide_eq_false (by split <;> split <;> split <;> omega)
  · by_cases hb : b < 0
    · rw [decide_eq_false ha, decide_eq_true hb]
      simp only [cond_true, cond_false, Bool.not_true]
      exact decide_eq_false (by split <;> split <;> split <;> omega)
    · by_cases hc : c < 0
      · rw [decide_eq_false ha, decide_eq_false hb, decide_eq_true hc]
        simp only [cond_true, cond_false, Bool.not_true]
        exact decide_eq_false (by split <;> split <;> split <;> omega)
      · by_cases hd : d < 0
        · rw [decide_eq_false ha, decide_eq_false hb, decide_eq_false hc, decide_eq_true hd]
          simp only [cond_false, Bool.not_true]
          exact decide_eq_false (by split <;> split <;> split <;> omega)
        · rw [decide_eq_false ha, decide_eq_false hb, decide_eq_false hc, decide_eq_false hd]
          simp only [cond_false, Bool.not_false]
          exact decide_eq_true (by split <;> split <;> split <;> omega)
theorem ns_rules {l : List (List UInt8)} {i : Int} (hl : (l.length : Int) = 5) (h1 : 1 ≤ i) (h2 : i ≤ 5) (h4 : i < (l.length : Int) → 4 < i) : nsN l i = [numP (l.getD 1 []), numP (l.getD 2 []), numP (l.getD 3 []), numP (l.getD 4 [])] := by
  have : i = 5 := by omega
  subst this
  rfl
theorem ns_link {l : List (List UInt8)} {i : Int} (hl : (l.length : Int) = 3) (h1 : 1 ≤ i) (h3 : i ≤ (l.length : Int) ∨ i = 1) (h4 : i < (l.length : Int) → 4 < i) : (nsN l i).getD 1 0 = numP (l.getD 2 []) := by
  have : i = 3 := by omega
  subst this
  rfl
theorem numP_end {s : List UInt8} {n : Int} (hn : numGo 1073741824 s 0 = some n) : (bif (bif s == [] then true else !(natT n.toNat == s)) then -1 else n) = numP s := by
  unfold numP
  rw [hn]
  simp only
  by_cases hs : s = []
  · rw [hs]; rfl
  · have : (s == []) = false := by simpa using hs
    rw [this, num_text hn hs, Bool.not_not]
theorem numP_low {n : Int} {s : List UInt8} (hn : numGo 1073741824 s 0 = some n) : n < 10000000000000000000 := by
  have := num_top (top := 1073741824) (by omega) s 0 n (Int.le_refl _) (by omega) hn
  omega
theorem node_first {s : List UInt8} (h : nodeBad s = false) : 0 < (elemsF (nparseF s).1 16).length ∧ (elemsF (nparseF s).1 16).getD 0 0 = nodeP s := by
  unfold nodeBad at h
  cases hc : (nparseF s).2 != (0 : Int) with
  | true => rw [hc] at h; cases h
  | false =>
    rw [hc] at h
    have h2 : (((elemsF (nparseF s).1 16).length : Int) != 1) = false := h
    have h3 : ((elemsF (nparseF s).1 16).length : Int) = 1 := by simpa using h2
    unfold nodeP lowestF
    cases hl : elemsF (nparseF s).1 16 with
    | nil => rw [hl] at h3; cases h3
    | cons j l => exact ⟨by simp, rfl⟩
end Go.Ev
/- The document's way to read all lines. -/
set_option linter.unusedVariables false
set_option linter.unusedSimpArgs false
namespace Go.Ev
abbrev RpfS := (List UInt8 × Int × Int × Int × Int × Int × Int × Unit) × (DConf × DConf × Unit)
def rpfB (x : RpfS) : Int := ((x.1.1.getD x.1.2.2.2.2.2.2.1.toNat 0).toNat : Int)
def rpfL (x : RpfS) : DConf × Bool := lineR x.2.2.1 (wordsF ((x.1.1.take x.1.2.2.2.2.2.2.1.toNat).drop x.1.2.2.2.1.toNat))
def rpfStp (x : RpfS) : Ex × RpfS :=
  bif decide (x.1.2.2.2.2.2.2.1 < x.1.2.2.2.2.2.1) then
    bif rpfB x != (10 : Int) then (.normal, ((x.1.1, x.1.2.1, x.1.2.2.1, x.1.2.2.2.1, x.1.2.2.2.2.1, x.1.2.2.2.2.2.1, x.1.2.2.2.2.2.2.1 + 1, ()), x.2))
    else bif !(rpfL x).2 then (.ret, ((x.1.1, x.1.2.2.2.2.1 + 1, 3, x.1.2.2.2.1, x.1.2.2.2.2.1 + 1, x.1.2.2.2.2.2.1, x.1.2.2.2.2.2.2.1, ()), zeroConf, x.2.2.1, ()))
    else (.normal, ((x.1.1, x.1.2.1, x.1.2.2.1, x.1.2.2.2.2.2.2.1 + 1, x.1.2.2.2.2.1 + 1, x.1.2.2.2.2.2.1, x.1.2.2.2.2.2.2.1 + 1, ()), x.2.1, (rpfL x).1, ()))
  else (.exit 0, x)
def rpfMu (x : RpfS) : Nat := (x.1.2.2.2.2.2.1 - x.1.2.2.2.2.2.2.1).toNat
def rpfPre (x : RpfS) : Prop := 0 ≤ x.1.2.2.2.1 ∧ x.1.2.2.2.1 ≤ x.1.2.2.2.2.2.2.1 ∧ x.1.2.2.2.2.2.2.1 ≤ x.1.2.2.2.2.2.1 ∧ x.1.2.2.2.2.2.1 = (x.1.1.length : Int) ∧ x.1.2.2.2.2.2.1 ≤ 2000 ∧ 0 ≤ x.1.2.2.2.2.1 ∧ x.1.2.2.2.2.1 ≤ x.1.2.2.2.2.2.2.1
theorem rpfStp_ends (x : RpfS) : (rpfStp x).1 = .normal ∨ (rpfStp x).1 = .exit 0 ∨ (rpfStp x).1 = .ret := by
  unfold rpfStp
  cases decide (x.1.2.2.2.2.2.2.1 < x.1.2.2.2.2.2.1) <;> cases rpfB x != (10 : Int) <;> cases !(rpfL x).2 <;> simp
theorem rpf_go {x : RpfS} (hp : rpfPre x) (h : (rpfStp x).1 = .normal) : rpfPre (rpfStp x).2 ∧ rpfMu (rpfStp x).2 < rpfMu x := by
  have hc : ∀ b b2 : Bool, (rpfB x != (10 : Int)) = b → (!(rpfL x).2) = b2 → rpfPre (rpfStp x).2 ∧ rpfMu (rpfStp x).2 < rpfMu x := by
    intro b b2 hb hb2
    obtain ⟨⟨s, e3, e4, a, n, len, i, ⟨⟩⟩, c2, c, ⟨⟩⟩ := x
    obtain ⟨h1, h2, h3, h4, h5, h6, h7⟩ := hp
    simp only at h1 h2 h3 h4 h5 h6 h7
    unfold rpfStp at h ⊢
    rw [hb, hb2] at h ⊢
    simp only at h ⊢
    by_cases hlt : i < len
    · rw [decide_eq_true hlt] at h ⊢
      cases b with
      | true =>
        refine ⟨⟨?_, ?_, ?_, h4, h5, ?_, ?_⟩, ?_⟩
        all_goals simp only [cond_true, rpfMu]
        all_goals omega
      | false =>
        cases b2 with
        | true => cases h
        | false =>
          refine ⟨⟨?_, ?_, ?_, h4, h5, ?_, ?_⟩, ?_⟩
          all_goals simp only [cond_true, cond_false, rpfMu]
          all_goals omega
    · rw [decide_eq_false hlt] at h
      cases h
  exact hc _ _ rfl rfl
def rpfEnd (s : List UInt8) (r : DConf × Int × Int) (p : Ex × RpfS) : Prop := (p.1 = .ret ∧ r = (zeroConf, p.2.1.2.1, p.2.1.2.2.1) ∧ p.2.2.1 = zeroConf ∧ (p.2.1.2.2.1 != (0 : Int)) = true) ∨
  (p.1 = .exit 0 ∧ p.2.1.1 = s ∧ 0 ≤ p.2.1.2.2.2.2.1 ∧ p.2.1.2.2.2.2.1 ≤ 2000 ∧ r = bif decide (p.2.1.2.2.2.1 < (s.length : Int)) then (zeroConf, p.2.1.2.2.2.2.1 + 1, 2) else (p.2.2.2.1, 0, 0))
theorem rpf_run {s : List UInt8} {r : DConf × Int × Int} : ∀ (n : Nat) (x : RpfS), (rpfPre x ∧ x.1.1 = s ∧ parGo (s.drop x.1.2.2.2.2.2.2.1.toNat) ((s.take x.1.2.2.2.2.2.2.1.toNat).drop x.1.2.2.2.1.toNat) (x.1.2.2.2.2.1 + 1) x.2.2.1 = r) → rpfMu x < n → rpfEnd s r (runF rpfStp n x) :=
  runF_inv fun x hx => by
    obtain ⟨hp, hs, hw⟩ := hx
    have hgo := rpf_go hp
    obtain ⟨⟨s', e3, e4, a, n, len, i, ⟨⟩⟩, c2, c, ⟨⟩⟩ := x
    obtain ⟨h1, h2, h3, h4, h5, h6, h7⟩ := hp
    simp only at h1 h2 h3 h4 h5 h6 h7 hs hw
    subst hs
    by_cases hlt : i < len
    · have hn : i.toNat < s'.length := by omega
      have e1 : (i + 1).toNat = i.toNat + 1 := by omega
      rw [drop_at hn, parGo] at hw
      have hb : rpfB ((s', e3, e4, a, n, len, i, ()), c2, c, ()) = ((s'.getD i.toNat 0).toNat : Int) := rfl
      have hcase : (((s'.getD i.toNat 0).toNat : Int) != (10 : Int)) = !(s'.getD i.toNat 0 == 10) := by
        unfold bne
        congr 1
        rw [Bool.eq_iff_iff]
        simp only [beq_iff_eq]
        constructor
        · intro h
          apply UInt8.toNat_inj.1
          show _ = 10
          omega
        · intro h
          rw [h]; rfl
      cases hc : s'.getD i.toNat 0 == 10 with
      | false =>
        rw [hc] at hw hcase
        have hst : rpfStp ((s', e3, e4, a, n, len, i, PUnit.unit), c2, c, PUnit.unit) = (.normal, ((s', e3, e4, a, n, len, i + 1, ()), c2, c, ())) := by
          unfold rpfStp
          rw [show rpfB ((s', e3, e4, a, n, len, i, PUnit.unit), c2, c, PUnit.unit) = ((s'.getD i.toNat 0).toNat : Int) from rfl, hcase]
          simp only
          rw [decide_eq_true hlt]
          rfl
        refine ⟨fun h => ⟨⟨(hgo h).1, ?_⟩, (hgo h).2⟩, fun h => ?_⟩
        · rw [hst]
          refine ⟨rfl, ?_⟩
          show parGo (s'.drop (i + 1).toNat) ((s'.take (i + 1).toNat).drop a.toNat) (n + 1) c = r
          rw [e1, cur_more hn (by omega)]
          exact hw
        · rw [hst] at h
          exact absurd rfl h
      | true =>
        rw [hc] at hw hcase
        simp only [cond_true] at hw
        obtain ⟨q1, q2⟩ := line_same c (wordsF ((s'.take i.toNat).drop a.toNat))
        have hL : rpfL ((s', e3, e4, a, n, len, i, PUnit.unit), c2, c, PUnit.unit) = lineR c (wordsF ((s'.take i.toNat).drop a.toNat)) := rfl
        cases hbad : lineBad c (wordsF ((s'.take i.toNat).drop a.toNat)) with
        | true =>
          rw [hbad] at hw q1
          have hst : rpfStp ((s', e3, e4, a, n, len, i, PUnit.unit), c2, c, PUnit.unit) = (.ret, ((s', n + 1, 3, a, n + 1, len, i, ()), zeroConf, c, ())) := by
            unfold rpfStp
            rw [show rpfB ((s', e3, e4, a, n, len, i, PUnit.unit), c2, c, PUnit.unit) = ((s'.getD i.toNat 0).toNat : Int) from rfl, hcase, hL, q1]
            simp only
            rw [decide_eq_true hlt]
            rfl
          refine ⟨fun h => ?_, fun _ => ?_⟩
          · rw [hst] at h
            cases h
          · rw [hst]
            exact .inl ⟨rfl, hw.symm, rfl, rfl⟩
        | false =>
          rw [hbad] at hw q1
          have hst : rpfStp ((s', e3, e4, a, n, len, i, PUnit.unit), c2, c, PUnit.unit) = (.normal, ((s', e3, e4, i + 1, n + 1, len, i + 1, ()), c2, lineN c (wordsF ((s'.take i.toNat).drop a.toNat)), ())) := by
            unfold rpfStp
            rw [show rpfB ((s', e3, e4, a, n, len, i, PUnit.unit), c2, c, PUnit.unit) = ((s'.getD i.toNat 0).toNat : Int) from rfl, hcase, hL, q1, q2 hbad]
            simp only
            rw [decide_eq_true hlt]
            rfl
          refine ⟨fun h => ⟨⟨(hgo h).1, ?_⟩, (hgo h).2⟩, fun h => ?_⟩
          · rw [hst]
            refine ⟨rfl, ?_⟩
            show parGo (s'.drop (i + 1).toNat) ((s'.take (i + 1).toNat).drop (i + 1).toNat) (n + 1 + 1) (lineN c (wordsF ((s'.take i.toNat).drop a.toNat))) = r
            rw [e1, drop_nil_le (l := s'.take (i.toNat + 1)) (by rw [List.length_take]; omega)]
            exact hw
          · rw [hst] at h
            exact absurd rfl h
    · have hst : rpfStp ((s', e3, e4, a, n, len, i, PUnit.unit), c2, c, PUnit.unit) = (.exit 0, ((s', e3, e4, a, n, len, i, ()), c2, c, ())) := by
        unfold rpfStp
        simp only
        rw [decide_eq_false hlt]
        rfl
      refine ⟨fun h => ?_, fun _ => ?_⟩
      · rw [hst] at h
        cases h
      · rw [hst]
        refine .inr ⟨rfl, rfl, h6, ?_, ?_⟩
        · show n ≤ 2000; omega
        · show r = bif decide (a < (s'.length : Int)) then (zeroConf, n + 1, 2) else (c, 0, 0)
          rw [← hw, drop_nil_le (l := s') (i := i.toNat) (by omega), List.take_of_length_le (by omega), parGo]
          by_cases ha : a < (s'.length : Int)
          · rw [decide_eq_true ha]
            have : (s'.drop a.toNat == []) = false := by
              have hne : s'.drop a.toNat ≠ [] := by
                intro e
                have := congrArg List.length e
                rw [List.length_drop] at this
                simp at this
                omega
              simpa using hne
            rw [this]; rfl
          · rw [decide_eq_false ha, drop_nil_le (l := s') (i := a.toNat) (by omega)]
            rfl
def rpfSt (s : List UInt8) : RpfS := ((s, 0, 0, 0, 0, (s.length : Int), 0, ()), zeroConf, zeroConf, ())
theorem rpf_all {s : List UInt8} (h : s.length ≤ 2000) : rpfPre (rpfSt s) ∧ rpfEnd s (parGo s [] 1 zeroConf) (runF rpfStp (rpfMu (rpfSt s) + 1) (rpfSt s)) := by
  have hp : rpfPre (rpfSt s) := ⟨Int.le_refl _, Int.le_refl _, by show (0 : Int) ≤ (s.length : Int); omega, rfl, by show (s.length : Int) ≤ _; omega, Int.le_refl _, Int.le_refl _⟩
  exact ⟨hp, rpf_run _ _ ⟨hp, rfl, by simp [rpfSt]⟩ (Nat.lt_succ_self _)⟩
end Go.Ev
