/- The functions of 'pack' keep their contracts. -/
import Derived.Test.YtohodbfoeejbjaaPEpoch
set_option linter.unusedVariables false
set_option linter.unusedSimpArgs false
namespace Go.Ev.P
open Go.Proofs

def takeC : Ctr := { args := [.str, .int .i64], res := [.int .u64, .str, .int .i64], pre := none, fn := fun (x : List UInt8 × Int) => takeF x.1 x.2 }
def takeD : LoopD where
  prom := []
  ts := [(0, .val .str), (7, .val (.int .u64)), (19, .val (.int .i64)), (20, .val (.int .i64))]
  bs := []
  pre := fun (x : (List UInt8 × Int × Int × Int × Unit) × Unit) => 0 ≤ x.1.2.2.2.1 ∧ x.1.2.2.2.1 ≤ x.1.2.2.1 ∧ x.1.2.2.1 ≤ x.1.1.length ∧ x.1.2.2.1 ≤ 8 ∧ x.1.2.1 = bigN (x.1.1.take x.1.2.2.2.1.toNat)
  out := fun (x : (List UInt8 × Int × Int × Int × Unit) × Unit) => .leaf (.exit 0, ((x.1.1, (bigN (x.1.1.take x.1.2.2.1.toNat) : Int), x.1.2.2.1, x.1.2.2.1, ()), ()))
theorem take_round : (fun x : (List UInt8 × Int × Int × Int × Unit) × Unit => roundOf (mkC tys [] [(0, takeD.spec)]) takeD (loopB 0 (bodyOf (fnOf Try.prog 71))) x) =
  (fun x =>
    Tree.br (decide (x.1.2.2.2.1 < x.1.2.2.1))
      (Tree.need ((0 : Int) ≤ x.1.2.2.2.1 ∧ x.1.2.2.2.1 < (↑(List.length x.1.1) : Int))
        (Tree.leaf
          (Ex.normal,
            some
              ((x.1.1,
                  bitsOp BinOp.or IntKind.u64 (IntKind.wrap IntKind.u64 (x.1.2.1 * (256 : Int))) (IntKind.wrap IntKind.u64 (↑(UInt8.toNat (List.getD x.1.1 (Int.toNat x.1.2.2.2.1) (0 : UInt8))) : Int)),
                  x.1.2.2.1, IntKind.wrap IntKind.i64 (x.1.2.2.2.1 + (1 : Int)), ()),
                ()))))
      (Tree.leaf (Ex.exit (0 : Nat), some ((x.1.1, x.1.2.1, x.1.2.2.1, x.1.2.2.2.1, ()), ())))) := by kernel_rfl
theorem take_loop : LoopOK (mkC tys [] [(0, takeD.spec)]) takeD.spec (loopB 0 (bodyOf (fnOf Try.prog 71))) :=
  loopD_ok1 (fun _ => rfl) (fun x => congrFun take_round x) (fun (x : (List UInt8 × Int × Int × Int × Unit) × Unit) => (x.1.2.2.1 - x.1.2.2.2.1).toNat) fun (x : (List UInt8 × Int × Int × Int × Unit) × Unit) hp => by
    obtain ⟨⟨s, n, m, i, ⟨⟩⟩, ⟨⟩⟩ := x
    obtain ⟨h1, h2, h3, h4, h5⟩ := hp
    simp only at h1 h2 h3 h4 h5
    subst h5
    simp only [Tree.holds]
    refine ⟨fun h => ?_, fun h => ?_⟩
    · have h' : i < m := by simpa using h
      have e : IntKind.i64.wrap (i + 1) = i + 1 := i64_id (by omega) (by omega)
      refine ⟨⟨h1, by omega⟩, _, rfl, ⟨?_, ?_, h3, h4, ?_⟩, ?_, rfl⟩
      · show 0 ≤ IntKind.i64.wrap (i + 1); omega
      · show IntKind.i64.wrap (i + 1) ≤ m; omega
      · show _ = ((bigN (s.take (IntKind.i64.wrap (i + 1)).toNat) : Nat) : Int)
        rw [e]
        exact take_step h1 (by omega) (by omega)
      · show (m - IntKind.i64.wrap (i + 1)).toNat < (m - i).toNat; omega
    · have h' : ¬ i < m := by simpa using h
      have hm : i = m := by omega
      subst hm
      exact ⟨_, rfl, rfl⟩
theorem take_tree : (fun x : List UInt8 × Int => evFn (mkC tys [] [(0, takeD.spec)]) (fnOf Try.prog 71) (resL takeC.args x) takeC.res) =
  (fun x =>
    Tree.br (bif decide (x.2 < (0 : Int)) then true else decide (x.2 > (8 : Int))) (Tree.leaf ((0 : Int), [], (1 : Int)))
      (Tree.br (decide ((↑(List.length x.1) : Int) < x.2)) (Tree.leaf ((0 : Int), [], (2 : Int)))
        (Tree.need ((0 : Int) ≤ (0 : Int) ∧ (0 : Int) ≤ x.2 ∧ x.2 ≤ (↑(List.length x.1) : Int) ∧ x.2 ≤ (8 : Int) ∧ (0 : Int) = (↑(bigN (List.take (Int.toNat (0 : Int)) x.1)) : Int))
          (Tree.need ((0 : Int) ≤ x.2 ∧ x.2 ≤ (↑(List.length x.1) : Int)) (Tree.leaf ((↑(bigN (List.take (Int.toNat x.2) x.1)) : Int), List.drop (Int.toNat x.2) x.1, (0 : Int))))))) := by kernel_rfl
theorem take_ok : CtrOK Try.prog 71 takeC :=
  fun_ok tysOK ctrs_nil mixed (by kernel_rfl) (by kernel_rfl) (by kernel_rfl) (by kernel_rfl) (lp_cons take_loop lp_nil) fun (x : List UInt8 × Int) hw _ => by
    rw [congrFun take_tree x]
    obtain ⟨s, k⟩ := x
    simp only [Tree.holds, takeC, takeF]
    refine ⟨fun h => by rw [h]; rfl, fun h => ⟨fun h' => by rw [h, h']; rfl, fun h' => ?_⟩⟩
    have h1 : 0 ≤ k ∧ k ≤ 8 := by
      cases hc : decide (k < 0) with
      | true => rw [hc] at h; cases h
      | false => rw [hc] at h; simp at h hc; omega
    have h2 : k ≤ s.length := by simpa using h'
    exact ⟨⟨by omega, h1.1, h2, h1.2, rfl⟩, ⟨h1.1, h2⟩, by rw [h, h']; rfl⟩
def numC : Ctr := { args := [.int .u64, .int .i64], res := [.str], pre := none, fn := fun (x : Int × Int) => numF x.1 x.2 }
def numD : LoopD where
  prom := []
  ts := [(0, .val (.int .u64)), (5, .tip 11), (6, .val (.int .i64))]
  bs := [(11, .row 5 (.int .u8) false)]
  pre := fun (x : (Int × Int × Unit) × List Int × Unit) => 0 ≤ x.1.1 ∧ x.1.1 < 18446744073709551616 ∧ -1 ≤ x.1.2.1 ∧ x.1.2.1 < x.2.1.length ∧ x.2.1.length ≤ 8
  out := fun (x : (Int × Int × Unit) × List Int × Unit) =>   .leaf (.exit 0, (((x.1.1.toNat / 256 ^ (x.1.2.1 + 1).toNat : Nat), -1, ()), numI (x.1.2.1 + 1).toNat x.1.1.toNat ++ x.2.1.drop (x.1.2.1 + 1).toNat, ()))
theorem num_round : (fun x : (Int × Int × Unit) × List Int × Unit => roundOf (mkC tys [] [(0, numD.spec)]) numD (loopB 0 (bodyOf (fnOf Try.prog 72))) x) =
  (fun x =>
    Tree.br (decide (x.1.2.1 ≥ (0 : Int)))
      (Tree.need ((0 : Int) ≤ x.1.2.1 ∧ x.1.2.1 < (↑(List.length x.2.1) : Int))
        (Tree.leaf
          (Ex.normal,
            some
              ((Int.fdiv x.1.1 (256 : Int), IntKind.wrap IntKind.i64 (x.1.2.1 - (1 : Int)), ()),
                List.set x.2.1 (Int.toNat x.1.2.1) (IntKind.wrap IntKind.u8 (bitsOp BinOp.and IntKind.u64 x.1.1 (255 : Int))), ()))))
      (Tree.leaf (Ex.exit (0 : Nat), some ((x.1.1, x.1.2.1, ()), x.2.1, ())))) := by kernel_rfl
theorem num_loop : LoopOK (mkC tys [] [(0, numD.spec)]) numD.spec (loopB 0 (bodyOf (fnOf Try.prog 72))) :=
  loopD_ok1 (fun _ => rfl) (fun x => congrFun num_round x) (fun (x : (Int × Int × Unit) × List Int × Unit) => (x.1.2.1 + 1).toNat) fun (x : (Int × Int × Unit) × List Int × Unit) hp => by
    obtain ⟨⟨n, i, ⟨⟩⟩, out, ⟨⟩⟩ := x
    obtain ⟨h1, h2, h3, h4, h5⟩ := hp
    simp only at h1 h2 h3 h4 h5
    simp only [Tree.holds]
    refine ⟨fun h => ?_, fun h => ?_⟩
    · have h' : 0 ≤ i := by simpa using h
      have e : IntKind.i64.wrap (i - 1) = i - 1 := i64_id (by omega) (by omega)
      have hd : Int.fdiv n 256 = n / 256 := by
        rw [Int.fdiv_eq_ediv_of_nonneg _ (by omega)]
      refine ⟨⟨h', h4⟩, _, rfl, ⟨?_, ?_, ?_, ?_, ?_⟩, ?_, ?_⟩
      · show 0 ≤ Int.fdiv n 256; omega
      · show Int.fdiv n 256 < 18446744073709551616; omega
      · show -1 ≤ IntKind.i64.wrap (i - 1); omega
      · show IntKind.i64.wrap (i - 1) < ((List.set out i.toNat _).length : Int)
        rw [List.length_set]; omega
      · show (List.set out i.toNat _).length ≤ 8
        rw [List.length_set]; exact h5
      · show (IntKind.i64.wrap (i - 1) + 1).toNat < (i + 1).toNat; omega
      · show (Ex.exit 0, (((((Int.fdiv n 256).toNat / 256 ^ (IntKind.i64.wrap (i - 1) + 1).toNat : Nat) : Int), (-1 : Int), ()), numI (IntKind.i64.wrap (i - 1) + 1).toNat _ ++ List.drop (IntKind.i64.wrap (i - 1) + 1).toNat _, ())) = _
        rw [e, show i - 1 + 1 = i by omega, num_fill h1 h2 h' h4, hd, show (n / 256).toNat = n.toNat / 256 by omega, Nat.div_div_eq_div_mul, Nat.mul_comm, ← Nat.pow_succ, show i.toNat.succ = (i + 1).toNat by omega]
    · have h' : i < 0 := by simpa using h
      have hi : i = -1 := by omega
      subst hi
      refine ⟨_, rfl, ?_⟩
      show (Ex.exit 0, ((((n.toNat / 256 ^ 0 : Nat) : Int), (-1 : Int), ()), numI 0 n.toNat ++ List.drop 0 out, ())) = (Ex.exit 0, ((n, (-1 : Int), ()), out, ()))
      rw [Nat.pow_zero, Nat.div_one, List.drop_zero, show ((n.toNat : Nat) : Int) = n by omega]
      rfl
theorem num_tree : (fun x : Int × Int => evFn (mkC tys [] [(0, numD.spec)]) (fnOf Try.prog 72) (resL numC.args x) numC.res) =
  (fun x =>
    Tree.need
      (((0 : Int) ≤ if (8 : Int) < if x.2 < (0 : Int) then (0 : Int) else x.2 then (8 : Int) else if x.2 < (0 : Int) then (0 : Int) else x.2) ∧
        ((if (8 : Int) < if x.2 < (0 : Int) then (0 : Int) else x.2 then (8 : Int) else if x.2 < (0 : Int) then (0 : Int) else x.2) ≤
            if (8 : Int) < if x.2 < (0 : Int) then (0 : Int) else x.2 then (8 : Int) else if x.2 < (0 : Int) then (0 : Int) else x.2) ∧
          (if (8 : Int) < if x.2 < (0 : Int) then (0 : Int) else x.2 then (8 : Int) else if x.2 < (0 : Int) then (0 : Int) else x.2) * (1 : Int) ≤ (140737488355328 : Int))
      (Tree.need
        ((0 : Int) ≤ x.1 ∧
          x.1 < (18446744073709551616 : Int) ∧
            (-1 : Int) ≤ IntKind.wrap IntKind.i64 ((if (8 : Int) < if x.2 < (0 : Int) then (0 : Int) else x.2 then (8 : Int) else if x.2 < (0 : Int) then (0 : Int) else x.2) - (1 : Int)) ∧
              IntKind.wrap IntKind.i64 ((if (8 : Int) < if x.2 < (0 : Int) then (0 : Int) else x.2 then (8 : Int) else if x.2 < (0 : Int) then (0 : Int) else x.2) - (1 : Int)) <
                  (↑(List.length (List.replicate (Int.toNat (if (8 : Int) < if x.2 < (0 : Int) then (0 : Int) else x.2 then (8 : Int) else if x.2 < (0 : Int) then (0 : Int) else x.2)) (0 : Int))) :
                    Int) ∧
                List.length (List.replicate (Int.toNat (if (8 : Int) < if x.2 < (0 : Int) then (0 : Int) else x.2 then (8 : Int) else if x.2 < (0 : Int) then (0 : Int) else x.2)) (0 : Int)) ≤ (8 : Nat))
        (Tree.leaf
          (bytesToStr
            (numI
                (Int.toNat
                  (IntKind.wrap IntKind.i64 ((if (8 : Int) < if x.2 < (0 : Int) then (0 : Int) else x.2 then (8 : Int) else if x.2 < (0 : Int) then (0 : Int) else x.2) - (1 : Int)) + (1 : Int)))
                (Int.toNat x.1) ++
              List.drop
                (Int.toNat
                  (IntKind.wrap IntKind.i64 ((if (8 : Int) < if x.2 < (0 : Int) then (0 : Int) else x.2 then (8 : Int) else if x.2 < (0 : Int) then (0 : Int) else x.2) - (1 : Int)) + (1 : Int)))
                (List.replicate (Int.toNat (if (8 : Int) < if x.2 < (0 : Int) then (0 : Int) else x.2 then (8 : Int) else if x.2 < (0 : Int) then (0 : Int) else x.2)) (0 : Int))))))) := by kernel_rfl
theorem num_ok : CtrOK Try.prog 72 numC :=
  fun_ok tysOK ctrs_nil mixed (by kernel_rfl) (by kernel_rfl) (by kernel_rfl) (by kernel_rfl) (lp_cons num_loop lp_nil) fun (x : Int × Int) hw _ => by
    rw [congrFun num_tree x]
    obtain ⟨n, k⟩ := x
    have h1 : IntKind.u64.has n := hw.1
    rw [has_u64] at h1
    have hk : (if (8 : Int) < if k < 0 then 0 else k then 8 else if k < 0 then 0 else k) = min (max k 0) 8 := by
      by_cases h : k < 0
      · simp only [h, if_true]; rw [if_neg (by omega)]; omega
      · simp only [h, if_false]
        by_cases h8 : 8 < k
        · rw [if_pos h8]; omega
        · rw [if_neg h8]; omega
    simp only [Tree.holds]
    rw [hk]
    have hm : 0 ≤ min (max k 0) 8 ∧ min (max k 0) 8 ≤ 8 := by omega
    simp only [numC, numF]
    generalize min (max k 0) 8 = m at *
    have e : IntKind.i64.wrap (m - 1) = m - 1 := i64_id (by omega) (by omega)
    rw [e, List.length_replicate, show m - 1 + 1 = m by omega]
    refine ⟨⟨hm.1, Int.le_refl _, ?_⟩, ⟨h1.1, by omega, by omega, by omega, by omega⟩, ?_⟩
    · omega
    · rw [List.drop_replicate, Nat.sub_self, List.replicate_zero, List.append_nil, bytesToStr_numI]
end Go.Ev.P
