/- How many are in a set: the library's way. -/
import Derived.Test.YtohodbfoeejbjaaDoorTextTreeReads7

set_option linter.unusedVariables false
set_option linter.unusedSimpArgs false
namespace Go.Ev.D
open Go.Proofs
def lowPre (x : Int) : Prop := 0 ≤ x ∧ x < 65536
def ones64C : Ctr := { args := [.int .u64], res := [.int .i64], pre := some lowPre, fn := fun (x : Int) => ((elemsF x 16).length : Int) }
theorem ones64_tree : (fun x : Int => evFn (mkC tys [] []) (fnOf Tryd.prog 156) (resL [.int .u64] x) [.int .i64]) =
  (fun x =>
    Tree.leaf
      (bitsOp BinOp.and IntKind.i64
        (IntKind.wrap IntKind.i64
          (IntKind.wrap IntKind.u64
            (IntKind.wrap IntKind.u64
                (IntKind.wrap IntKind.u64
                    (bitsOp BinOp.and IntKind.u64
                        (IntKind.wrap IntKind.u64
                          (Int.fdiv
                              (IntKind.wrap IntKind.u64
                                (bitsOp BinOp.and IntKind.u64
                                    (Int.fdiv
                                      (IntKind.wrap IntKind.u64
                                        (bitsOp BinOp.and IntKind.u64 (Int.fdiv x (2 : Int)) (6148914691236517205 : Int) + bitsOp BinOp.and IntKind.u64 x (6148914691236517205 : Int)))
                                      (4 : Int))
                                    (3689348814741910323 : Int) +
                                  bitsOp BinOp.and IntKind.u64
                                    (IntKind.wrap IntKind.u64
                                      (bitsOp BinOp.and IntKind.u64 (Int.fdiv x (2 : Int)) (6148914691236517205 : Int) + bitsOp BinOp.and IntKind.u64 x (6148914691236517205 : Int)))
                                    (3689348814741910323 : Int)))
                              (16 : Int) +
                            IntKind.wrap IntKind.u64
                              (bitsOp BinOp.and IntKind.u64
                                  (Int.fdiv
                                    (IntKind.wrap IntKind.u64
                                      (bitsOp BinOp.and IntKind.u64 (Int.fdiv x (2 : Int)) (6148914691236517205 : Int) + bitsOp BinOp.and IntKind.u64 x (6148914691236517205 : Int)))
                                    (4 : Int))
                                  (3689348814741910323 : Int) +
                                bitsOp BinOp.and IntKind.u64
                                  (IntKind.wrap IntKind.u64
                                    (bitsOp BinOp.and IntKind.u64 (Int.fdiv x (2 : Int)) (6148914691236517205 : Int) + bitsOp BinOp.and IntKind.u64 x (6148914691236517205 : Int)))
                                  (3689348814741910323 : Int))))
                        (1085102592571150095 : Int) +
                      Int.fdiv
                        (bitsOp BinOp.and IntKind.u64
                          (IntKind.wrap IntKind.u64
                            (Int.fdiv
                                (IntKind.wrap IntKind.u64
                                  (bitsOp BinOp.and IntKind.u64
                                      (Int.fdiv
                                        (IntKind.wrap IntKind.u64
                                          (bitsOp BinOp.and IntKind.u64 (Int.fdiv x (2 : Int)) (6148914691236517205 : Int) + bitsOp BinOp.and IntKind.u64 x (6148914691236517205 : Int)))
                                        (4 : Int))
                                      (3689348814741910323 : Int) +
                                    bitsOp BinOp.and IntKind.u64
                                      (IntKind.wrap IntKind.u64
                                        (bitsOp BinOp.and IntKind.u64 (Int.fdiv x (2 : Int)) (6148914691236517205 : Int) + bitsOp BinOp.and IntKind.u64 x (6148914691236517205 : Int)))
                                      (3689348814741910323 : Int)))
                                (16 : Int) +
                              IntKind.wrap IntKind.u64
                                (bitsOp BinOp.and IntKind.u64
                                    (Int.fdiv
                                      (IntKind.wrap IntKind.u64
                                        (bitsOp BinOp.and IntKind.u64 (Int.fdiv x (2 : Int)) (6148914691236517205 : Int) + bitsOp BinOp.and IntKind.u64 x (6148914691236517205 : Int)))
                                      (4 : Int))
                                    (3689348814741910323 : Int) +
                                  bitsOp BinOp.and IntKind.u64
                                    (IntKind.wrap IntKind.u64
                                      (bitsOp BinOp.and IntKind.u64 (Int.fdiv x (2 : Int)) (6148914691236517205 : Int) + bitsOp BinOp.and IntKind.u64 x (6148914691236517205 : Int)))
                                    (3689348814741910323 : Int))))
                          (1085102592571150095 : Int))
                        (256 : Int)) +
                  Int.fdiv
                    (IntKind.wrap IntKind.u64
                      (bitsOp BinOp.and IntKind.u64
                          (IntKind.wrap IntKind.u64
                            (Int.fdiv
                                (IntKind.wrap IntKind.u64
                                  (bitsOp BinOp.and IntKind.u64
                                      (Int.fdiv
                                        (IntKind.wrap IntKind.u64
                                          (bitsOp BinOp.and IntKind.u64 (Int.fdiv x (2 : Int)) (6148914691236517205 : Int) + bitsOp BinOp.and IntKind.u64 x (6148914691236517205 : Int)))
                                        (4 : Int))
                                      (3689348814741910323 : Int) +
                                    bitsOp BinOp.and IntKind.u64
                                      (IntKind.wrap IntKind.u64
                                        (bitsOp BinOp.and IntKind.u64 (Int.fdiv x (2 : Int)) (6148914691236517205 : Int) + bitsOp BinOp.and IntKind.u64 x (6148914691236517205 : Int)))
                                      (3689348814741910323 : Int)))
                                (16 : Int) +
                              IntKind.wrap IntKind.u64
                                (bitsOp BinOp.and IntKind.u64
                                    (Int.fdiv
                                      (IntKind.wrap IntKind.u64
                                        (bitsOp BinOp.and IntKind.u64 (Int.fdiv x (2 : Int)) (6148914691236517205 : Int) + bitsOp BinOp.and IntKind.u64 x (6148914691236517205 : Int)))
                                      (4 : Int))
                                    (3689348814741910323 : Int) +
                                  bitsOp BinOp.and IntKind.u64
                                    (IntKind.wrap IntKind.u64
                                      (bitsOp BinOp.and IntKind.u64 (Int.fdiv x (2 : Int)) (6148914691236517205 : Int) + bitsOp BinOp.and IntKind.u64 x (6148914691236517205 : Int)))
                                    (3689348814741910323 : Int))))
                          (1085102592571150095 : Int) +
                        Int.fdiv
                          (bitsOp BinOp.and IntKind.u64
                            (IntKind.wrap IntKind.u64
                              (Int.fdiv
                                  (IntKind.wrap IntKind.u64
                                    (bitsOp BinOp.and IntKind.u64
                                        (Int.fdiv
                                          (IntKind.wrap IntKind.u64
                                            (bitsOp BinOp.and IntKind.u64 (Int.fdiv x (2 : Int)) (6148914691236517205 : Int) + bitsOp BinOp.and IntKind.u64 x (6148914691236517205 : Int)))
                                          (4 : Int))
                                        (3689348814741910323 : Int) +
                                      bitsOp BinOp.and IntKind.u64
                                        (IntKind.wrap IntKind.u64
                                          (bitsOp BinOp.and IntKind.u64 (Int.fdiv x (2 : Int)) (6148914691236517205 : Int) + bitsOp BinOp.and IntKind.u64 x (6148914691236517205 : Int)))
                                        (3689348814741910323 : Int)))
                                  (16 : Int) +
                                IntKind.wrap IntKind.u64
                                  (bitsOp BinOp.and IntKind.u64
                                      (Int.fdiv
                                        (IntKind.wrap IntKind.u64
                                          (bitsOp BinOp.and IntKind.u64 (Int.fdiv x (2 : Int)) (6148914691236517205 : Int) + bitsOp BinOp.and IntKind.u64 x (6148914691236517205 : Int)))
                                        (4 : Int))
                                      (3689348814741910323 : Int) +
                                    bitsOp BinOp.and IntKind.u64
                                      (IntKind.wrap IntKind.u64
                                        (bitsOp BinOp.and IntKind.u64 (Int.fdiv x (2 : Int)) (6148914691236517205 : Int) + bitsOp BinOp.and IntKind.u64 x (6148914691236517205 : Int)))
                                      (3689348814741910323 : Int))))
                            (1085102592571150095 : Int))
                          (256 : Int)))
                    (65536 : Int)) +
              Int.fdiv
                (IntKind.wrap IntKind.u64
                  (IntKind.wrap IntKind.u64
                      (bitsOp BinOp.and IntKind.u64
                          (IntKind.wrap IntKind.u64
                            (Int.fdiv
                                (IntKind.wrap IntKind.u64
                                  (bitsOp BinOp.and IntKind.u64
                                      (Int.fdiv
                                        (IntKind.wrap IntKind.u64
                                          (bitsOp BinOp.and IntKind.u64 (Int.fdiv x (2 : Int)) (6148914691236517205 : Int) + bitsOp BinOp.and IntKind.u64 x (6148914691236517205 : Int)))
                                        (4 : Int))
                                      (3689348814741910323 : Int) +
                                    bitsOp BinOp.and IntKind.u64
                                      (IntKind.wrap IntKind.u64
                                        (bitsOp BinOp.and IntKind.u64 (Int.fdiv x (2 : Int)) (6148914691236517205 : Int) + bitsOp BinOp.and IntKind.u64 x (6148914691236517205 : Int)))
                                      (3689348814741910323 : Int)))
                                (16 : Int) +
                              IntKind.wrap IntKind.u64
                                (bitsOp BinOp.and IntKind.u64
                                    (Int.fdiv
                                      (IntKind.wrap IntKind.u64
                                        (bitsOp BinOp.and IntKind.u64 (Int.fdiv x (2 : Int)) (6148914691236517205 : Int) + bitsOp BinOp.and IntKind.u64 x (6148914691236517205 : Int)))
                                      (4 : Int))
                                    (3689348814741910323 : Int) +
                                  bitsOp BinOp.and IntKind.u64
                                    (IntKind.wrap IntKind.u64
                                      (bitsOp BinOp.and IntKind.u64 (Int.fdiv x (2 : Int)) (6148914691236517205 : Int) + bitsOp BinOp.and IntKind.u64 x (6148914691236517205 : Int)))
                                    (3689348814741910323 : Int))))
                          (1085102592571150095 : Int) +
                        Int.fdiv
                          (bitsOp BinOp.and IntKind.u64
                            (IntKind.wrap IntKind.u64
                              (Int.fdiv
                                  (IntKind.wrap IntKind.u64
                                    (bitsOp BinOp.and IntKind.u64
                                        (Int.fdiv
                                          (IntKind.wrap IntKind.u64
                                            (bitsOp BinOp.and IntKind.u64 (Int.fdiv x (2 : Int)) (6148914691236517205 : Int) + bitsOp BinOp.and IntKind.u64 x (6148914691236517205 : Int)))
                                          (4 : Int))
                                        (3689348814741910323 : Int) +
                                      bitsOp BinOp.and IntKind.u64
                                        (IntKind.wrap IntKind.u64
                                          (bitsOp BinOp.and IntKind.u64 (Int.fdiv x (2 : Int)) (6148914691236517205 : Int) + bitsOp BinOp.and IntKind.u64 x (6148914691236517205 : Int)))
                                        (3689348814741910323 : Int)))
                                  (16 : Int) +
                                IntKind.wrap IntKind.u64
                                  (bitsOp BinOp.and IntKind.u64
                                      (Int.fdiv
                                        (IntKind.wrap IntKind.u64
                                          (bitsOp BinOp.and IntKind.u64 (Int.fdiv x (2 : Int)) (6148914691236517205 : Int) + bitsOp BinOp.and IntKind.u64 x (6148914691236517205 : Int)))
                                        (4 : Int))
                                      (3689348814741910323 : Int) +
                                    bitsOp BinOp.and IntKind.u64
                                      (IntKind.wrap IntKind.u64
                                        (bitsOp BinOp.and IntKind.u64 (Int.fdiv x (2 : Int)) (6148914691236517205 : Int) + bitsOp BinOp.and IntKind.u64 x (6148914691236517205 : Int)))
                                      (3689348814741910323 : Int))))
                            (1085102592571150095 : Int))
                          (256 : Int)) +
                    Int.fdiv
                      (IntKind.wrap IntKind.u64
                        (bitsOp BinOp.and IntKind.u64
                            (IntKind.wrap IntKind.u64
                              (Int.fdiv
                                  (IntKind.wrap IntKind.u64
                                    (bitsOp BinOp.and IntKind.u64
                                        (Int.fdiv
                                          (IntKind.wrap IntKind.u64
                                            (bitsOp BinOp.and IntKind.u64 (Int.fdiv x (2 : Int)) (6148914691236517205 : Int) + bitsOp BinOp.and IntKind.u64 x (6148914691236517205 : Int)))
                                          (4 : Int))
                                        (3689348814741910323 : Int) +
                                      bitsOp BinOp.and IntKind.u64
                                        (IntKind.wrap IntKind.u64
                                          (bitsOp BinOp.and IntKind.u64 (Int.fdiv x (2 : Int)) (6148914691236517205 : Int) + bitsOp BinOp.and IntKind.u64 x (6148914691236517205 : Int)))
                                        (3689348814741910323 : Int)))
                                  (16 : Int) +
                                IntKind.wrap IntKind.u64
                                  (bitsOp BinOp.and IntKind.u64
                                      (Int.fdiv
                                        (IntKind.wrap IntKind.u64
                                          (bitsOp BinOp.and IntKind.u64 (Int.fdiv x (2 : Int)) (6148914691236517205 : Int) + bitsOp BinOp.and IntKind.u64 x (6148914691236517205 : Int)))
                                        (4 : Int))
                                      (3689348814741910323 : Int) +
                                    bitsOp BinOp.and IntKind.u64
                                      (IntKind.wrap IntKind.u64
                                        (bitsOp BinOp.and IntKind.u64 (Int.fdiv x (2 : Int)) (6148914691236517205 : Int) + bitsOp BinOp.and IntKind.u64 x (6148914691236517205 : Int)))
                                      (3689348814741910323 : Int))))
                            (1085102592571150095 : Int) +
                          Int.fdiv
                            (bitsOp BinOp.and IntKind.u64
                              (IntKind.wrap IntKind.u64
                                (Int.fdiv
                                    (IntKind.wrap IntKind.u64
                                      (bitsOp BinOp.and IntKind.u64
                                          (Int.fdiv
                                            (IntKind.wrap IntKind.u64
                                              (bitsOp BinOp.and IntKind.u64 (Int.fdiv x (2 : Int)) (6148914691236517205 : Int) + bitsOp BinOp.and IntKind.u64 x (6148914691236517205 : Int)))
                                            (4 : Int))
                                          (3689348814741910323 : Int) +
                                        bitsOp BinOp.and IntKind.u64
                                          (IntKind.wrap IntKind.u64
                                            (bitsOp BinOp.and IntKind.u64 (Int.fdiv x (2 : Int)) (6148914691236517205 : Int) + bitsOp BinOp.and IntKind.u64 x (6148914691236517205 : Int)))
                                          (3689348814741910323 : Int)))
                                    (16 : Int) +
                                  IntKind.wrap IntKind.u64
                                    (bitsOp BinOp.and IntKind.u64
                                        (Int.fdiv
                                          (IntKind.wrap IntKind.u64
                                            (bitsOp BinOp.and IntKind.u64 (Int.fdiv x (2 : Int)) (6148914691236517205 : Int) + bitsOp BinOp.and IntKind.u64 x (6148914691236517205 : Int)))
                                          (4 : Int))
                                        (3689348814741910323 : Int) +
                                      bitsOp BinOp.and IntKind.u64
                                        (IntKind.wrap IntKind.u64
                                          (bitsOp BinOp.and IntKind.u64 (Int.fdiv x (2 : Int)) (6148914691236517205 : Int) + bitsOp BinOp.and IntKind.u64 x (6148914691236517205 : Int)))
                                        (3689348814741910323 : Int))))
                              (1085102592571150095 : Int))
                            (256 : Int)))
                      (65536 : Int)))
                (4294967296 : Int))))
        (127 : Int))) := by kernel_rfl
theorem ones64_ok : CtrOK Tryd.prog 156 ones64C :=
  fun_ok (G := []) (Λ := []) tysOK ctrs_nil mixed (by kernel_rfl) (by kernel_rfl) (by kernel_rfl) (by kernel_rfl) lp_nil fun (x : Int) hw hp => by
    have hx : lowPre x := hp lowPre rfl
    show (evFn (mkC tys [] []) (fnOf Tryd.prog 156) (resL [.int .u64] x) [.int .i64]).holds (fun y => y = ((elemsF x 16).length : Int))
    rw [congrFun ones64_tree x]
    exact ones_len hx.1 hx.2
def ones0C : Ctr := { args := [.int .u64], res := [.int .i64], pre := some lowPre, fn := fun (x : Int) => ((elemsF x 16).length : Int) }
def onesG : List (Nat × Ctr) := [(156, ones64C)]
theorem ones0_tree : (fun x : Int => evFn (mkC tys onesG []) (fnOf Tryd.prog 136) (resL [.int .u64] x) [.int .i64]) =
  (fun x => Tree.br false Tree.stuck (Tree.need (lowPre x) (Tree.leaf (↑(List.length (elemsF x (16 : Nat))) : Int)))) := by kernel_rfl
theorem ones0_ok : CtrOK Tryd.prog 136 ones0C :=
  fun_ok (G := onesG) (Λ := []) tysOK (ctrs_cons ones64_ok ctrs_nil) mixed (by kernel_rfl) (by kernel_rfl) (by kernel_rfl) (by kernel_rfl) lp_nil fun (x : Int) hw hp => by
    have hx : lowPre x := hp lowPre rfl
    show (evFn (mkC tys onesG []) (fnOf Tryd.prog 136) (resL [.int .u64] x) [.int .i64]).holds (fun y => y = ((elemsF x 16).length : Int))
    rw [congrFun ones0_tree x]
    simp only [Tree.holds]
    simp [hx]
def ncountC : Ctr := { args := [.int .i64], res := [.int .i64], pre := some lowPre, fn := fun (x : Int) => ((elemsF x 16).length : Int) }
def ncountG : List (Nat × Ctr) := [(136, ones0C)]
theorem ncount_tree : (fun x : Int => evFn (mkC tys ncountG []) (fnOf Tryd.prog 87) (resL [.int .i64] x) [.int .i64]) =
  (fun x =>
    Tree.need (lowPre (IntKind.wrap IntKind.u64 (bitsOp BinOp.and IntKind.i64 x (65535 : Int))))
      (Tree.leaf (↑(List.length (elemsF (IntKind.wrap IntKind.u64 (bitsOp BinOp.and IntKind.i64 x (65535 : Int))) (16 : Nat))) : Int))) := by kernel_rfl
theorem ncount_ok : CtrOK Tryd.prog 87 ncountC :=
  fun_ok (G := ncountG) (Λ := []) tysOK (ctrs_cons ones0_ok ctrs_nil) mixed (by kernel_rfl) (by kernel_rfl) (by kernel_rfl) (by kernel_rfl) lp_nil fun (x : Int) hw hp => by
    have hx : lowPre x := hp lowPre rfl
    show (evFn (mkC tys ncountG []) (fnOf Tryd.prog 87) (resL [.int .i64] x) [.int .i64]).holds (fun y => y = ((elemsF x 16).length : Int))
    rw [congrFun ncount_tree x]
    have e1 := and_lowI hx.1 hx.2
    have e2 : IntKind.wrap IntKind.u64 x = x := u64_id hx.1 (by have := hx.2; omega)
    simp only [Tree.holds]
    rw [e1, e2]
    exact ⟨hx, rfl⟩
end Go.Ev.D
/- The better of two trees, and what is asked of trees read. -/
set_option linter.unusedVariables false
set_option linter.unusedSimpArgs false
namespace Go.Ev
theorem digN_max : ∀ f k n, n < 10 ^ (k + 1) → (digN f n).length ≤ k + 1
  | 0, _, _, _ => by simp [digN]
  | f + 1, k, n, h => by
    unfold digN
    cases hb : Nat.blt n 10 with
    | true => simp
    | false =>
      have hn : ¬ n < 10 := by
        intro hn
        have h9 : Nat.blt n 10 = true := by rw [Nat.blt_eq]; exact hn
        rw [h9] at hb
        cases hb
      simp only [cond_false, List.length_append, List.length_cons, List.length_nil]
      cases k with
      | zero => simp at h; omega
      | succ k =>
        have h2 : n / 10 < 10 ^ (k + 1) := by rw [Nat.pow_succ] at h; omega
        have := digN_max f k (n / 10) h2
        omega
theorem ent_short {t : List DEnt} (h : plainT t) {j : Int} (h0 : 0 ≤ j) (h1 : j < 16) : (entB t j).length ≤ 13 := by
  have hg := h.1.2 j.toNat (by omega)
  have e1 : (natT (entAt t j.toNat).1.toNat).length ≤ 10 := digN_max 20 9 _ (by have := hg.2; omega)
  have e2 : (textN (withF 0 j)).length = 1 := by rw [(one_text h0 h1).1]; rfl
  have e3 : (textN (withF 0 (entAt t j.toNat).2)).length = 1 := by rw [pchar_text hg.1]; rfl
  unfold entB
  simp only [List.length_append, List.length_cons, List.length_nil]
  omega
theorem tree_short {t : List DEnt} (h : plainT t) : (treeB t).length ≤ 208 := by
  have key : ∀ l : List Int, (∀ j ∈ l, 0 ≤ j ∧ j < 16) → (l.flatMap (entB t)).length ≤ 13 * l.length := fun l => by
    induction l with
    | nil => intro _; simp
    | cons j l ih =>
      intro hl
      have h1 := ih fun i hi => hl i (by simp [hi])
      have h2 := ent_short h (hl j (by simp)).1 (hl j (by simp)).2
      rw [List.flatMap_cons, List.length_append, List.length_cons]
      omega
  have h2 := elems_len (reachT t) 16
  have := key (elemsF (reachT t) 16) fun j hj => by
    have := elem_in (Nat.le_refl 16) hj
    exact ⟨this.1, this.2.1⟩
  unfold treeB
  omega
/-! The better of two -/
def betE (x y : DEnt) : DEnt := bif decide (y.1 < x.1) then y else x
def betK (b : List DEnt) : Nat → List DEnt → List DEnt
  | 0, a => a
  | k + 1, a => betK b k (bif decide ((entAt b (15 - k)).1 < (entAt a (15 - k)).1) then a.set (15 - k) (entAt b (15 - k)) else a)
def betF (a b : List DEnt) : List DEnt := betK b 16 a
theorem betK_at {b : List DEnt} : ∀ k a, k ≤ 16 → a.length = 16 → (betK b k a).length = 16 ∧ ∀ j, j < 16 → entAt (betK b k a) j = if 16 - k ≤ j then betE (entAt a j) (entAt b j) else entAt a j
  | 0, a, _, ha => ⟨ha, fun j hj => by rw [if_neg (by omega)]; rfl⟩
  | k + 1, a, hk, ha => by
    have hlen : (bif decide ((entAt b (15 - k)).1 < (entAt a (15 - k)).1) then a.set (15 - k) (entAt b (15 - k)) else a).length = 16 := by
      cases decide ((entAt b (15 - k)).1 < (entAt a (15 - k)).1) with
      | true => simp only [cond_true, List.length_set]; exact ha
      | false => exact ha
    obtain ⟨h1, h2⟩ := betK_at (b := b) k _ (by omega) hlen
    refine ⟨h1, fun j hj => ?_⟩
    rw [betK, h2 j hj]
    have hat : entAt (bif decide ((entAt b (15 - k)).1 < (entAt a (15 - k)).1) then a.set (15 - k) (entAt b (15 - k)) else a) j = if 15 - k = j then betE (entAt a j) (entAt b j) else entAt a j := by
      by_cases he : 15 - k = j
      · subst he
        rw [if_pos rfl]
        unfold betE
        cases decide ((entAt b (15 - k)).1 < (entAt a (15 - k)).1) with
        | true => simp only [cond_true]; rw [ent_set (by omega), if_pos rfl]
        | false => rfl
      · rw [if_neg he]
        cases decide ((entAt b (15 - k)).1 < (entAt a (15 - k)).1) with
        | true => simp only [cond_true]; rw [ent_set (by omega), if_neg he]
        | false => rfl
    rw [hat]
    by_cases h3 : 16 - k ≤ j
    · rw [if_pos h3, if_neg (show ¬ 15 - k = j by omega), if_pos (show 16 - (k + 1) ≤ j by omega)]
    · by_cases h4 : 15 - k = j
      · rw [if_neg h3, if_pos h4, if_pos (show 16 - (k + 1) ≤ j by omega)]
      · rw [if_neg h3, if_neg h4, if_neg (show ¬ 16 - (k + 1) ≤ j by omega)]
theorem bet_at {a b : List DEnt} (ha : a.length = 16) {j : Nat} (hj : j < 16) : entAt (betF a b) j = betE (entAt a j) (entAt b j) := by
  have := (betK_at (b := b) 16 a (Nat.le_refl _) ha).2 j hj
  rw [if_pos (by omega)] at this
  exact this
theorem bet_len {a b : List DEnt} (ha : a.length = 16) : (betF a b).length = 16 := (betK_at (b := b) 16 a (Nat.le_refl _) ha).1
theorem betE_low (x y : DEnt) : (decide ((betE x y).1 > x.1)) = false ∧ (decide ((betE x y).1 > y.1)) = false ∧ (betE x y = x ∨ betE x y = y) := by
  unfold betE
  by_cases h : y.1 < x.1
  · rw [decide_eq_true h]
    exact ⟨decide_eq_false (by simp only [cond_true]; omega), decide_eq_false (by simp only [cond_true]; omega), .inr rfl⟩
  · rw [decide_eq_false h]
    exact ⟨decide_eq_false (by simp only [cond_false]; omega), decide_eq_false (by simp only [cond_false]; omega), .inl rfl⟩
/-! Plain trees, as the law asks -/
def plB (e : DEnt) : Bool := bif e.2 == (-1 : Int) then true else bif rightF e.2 then e.1 != (4294967295 : Int) else false
def plainK (t : List DEnt) : Nat → Bool → Bool
  | 0, p => p
  | k + 1, p => plainK t k (bif p then plB (entAt t (15 - k)) else false)
theorem plainK_true {t : List DEnt} : ∀ k p, k ≤ 16 → plainK t k p = true → p = true ∧ ∀ j, 16 - k ≤ j → j < 16 → plB (entAt t j) = true
  | 0, p, _, h => ⟨h, fun j h1 h2 => by omega⟩
  | k + 1, p, hk, h => by
    obtain ⟨h1, h2⟩ := plainK_true (t := t) k _ (by omega) h
    cases p with
    | false => cases h1
    | true =>
      refine ⟨rfl, fun j h3 h4 => ?_⟩
      by_cases he : j = 15 - k
      · rw [he]; exact h1
      · exact h2 j (by omega) h4
theorem plain_of {t : List DEnt} (hw : t.length = 16) (ho : tOK t) (h : plainK t 16 true = true) : plainT t := by
  have hp := (plainK_true 16 true (Nat.le_refl _) h).2
  have hc : ∀ j, j < 16 → (entAt t j).2 = -1 ∨ 0 ≤ (entAt t j).2 ∧ (entAt t j).2 < 16 ∧ (entAt t j).1 ≠ 4294967295 := fun j hj => by
    have := hp j (by omega) hj
    unfold plB at this
    cases h1 : (entAt t j).2 == (-1 : Int) with
    | true => left; simpa using h1
    | false =>
      rw [h1] at this
      simp only [cond_false] at this
      cases h2 : rightF (entAt t j).2 with
      | false => rw [h2] at this; cases this
      | true =>
        rw [h2] at this
        have h3 := rightF_iff.1 h2
        have h4 : ((entAt t j).1 != (4294967295 : Int)) = true := this
        right
        refine ⟨h3.1, h3.2, fun he => ?_⟩
        rw [he] at h4
        cases h4
  refine ⟨⟨hw, fun j hj => ⟨?_, ho j⟩⟩, hc⟩
  exact (hc j hj).imp id fun h => ⟨h.1, h.2.1⟩
theorem betF_eq (a b : List DEnt) : betK b (Int.toNat ((16 : Int) - (0 : Int))) a = betF a b := by
  unfold betF
  rw [show Int.toNat ((16 : Int) - (0 : Int)) = 16 by decide]
theorem betK_step {b a : List DEnt} {i : Int} (h0 : 0 ≤ i) (h1 : i < 16) : betK b (16 - (i + 1)).toNat (bif decide ((b.getD i.toNat ((0 : Int), (0 : Int))).1 < (a.getD i.toNat ((0 : Int), (0 : Int))).1) then a.set i.toNat (b.getD i.toNat ((0 : Int), (0 : Int))) else a) = betK b (16 - i).toNat a := by
  obtain ⟨s1, s2⟩ := step_i h0 h1
  rw [s1, betK, s2]
  rfl
theorem plainK_step {t : List DEnt} {p : Bool} {i : Int} (h0 : 0 ≤ i) (h1 : i < 16) : plainK t (16 - (i + 1)).toNat (bif p then plB (entAt t i.toNat) else false) = plainK t (16 - i).toNat p := by
  obtain ⟨s1, s2⟩ := step_i h0 h1
  rw [s1, plainK, s2]
theorem plainK_end (t : List DEnt) (p : Bool) : plainK t (16 - (16 : Int)).toNat p = p := by
  rw [show (16 - (16 : Int)).toNat = 0 by decide, plainK]
theorem betK_end (b a : List DEnt) : betK b (16 - (16 : Int)).toNat a = a := by
  rw [show (16 - (16 : Int)).toNat = 0 by decide, betK]
attribute [irreducible] betF betK plainK
end Go.Ev
