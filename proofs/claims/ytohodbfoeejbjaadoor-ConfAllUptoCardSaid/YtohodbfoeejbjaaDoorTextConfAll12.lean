/- The links that two ends say, counted. -/
import Derived.Test.YtohodbfoeejbjaaDoorTextConfAll11

set_option linter.unusedVariables false
set_option linter.unusedSimpArgs false
namespace Go.Ev.D
open Go.Proofs
def rlkG : List (Nat × Ctr) := [(111, rhasC)]
theorem rlkG_ok : CtrsOK Tryd.prog (fun f => lk f rlkG) := (ctrs_cons rhas_ok ctrs_nil)
def lkG : List (Nat × Ctr) := [(72, rightC), (41, hasC)]
theorem lkG_ok : CtrsOK Tryd.prog (fun f => lk f lkG) := (ctrs_cons right_ok (ctrs_cons has_ok ctrs_nil))
def lkC : Ctr := { args := [.sl gConf], res := [.int .i64], pre := some (fun (x : List DConf) => x.length ≤ 20), fn := fun (x : List DConf) => linksF x }
def rlkC : Ctr := { args := [.sl gConf], res := [.int .i64], pre := some (fun (x : List DConf) => x.length ≤ 20), fn := fun (x : List DConf) => allP x x }
def d93I : LoopD where
  prom := []
  ts := [(3, .val (.int .i64)), (5, .ptr 5 gConf), (14, .val (.sl gConf)), (15, .val (.int .i64)), (16, .val (.int .i64))]
  bs := [(5, .var gConf)]
  pre := fun (x : L93I) => p93I x
  out := fun (x : L93I) => .leaf (.exit 2, ((x.1.1 + cntP x.2.1 (x.1.2.1.drop x.1.2.2.2.1.toNat), x.1.2.1, x.1.2.2.1, x.1.2.2.1, ()), (x.2.1, ())))
def d93O : LoopD where
  prom := []
  ts := [(0, .val (.sl gConf)), (3, .val (.int .i64)), (8, .val (.sl gConf)), (9, .val (.int .i64)), (10, .val (.int .i64))]
  bs := []
  pre := fun (x : L93O) => p93O x
  out := fun (x : L93O) => .leaf (.exit 0, ((x.1.1, x.1.2.1 + allP x.1.1 (x.1.2.2.1.drop x.1.2.2.2.2.1.toNat), x.1.2.2.1, x.1.2.2.2.1, x.1.2.2.2.1, ()), ()))
noncomputable def rlkL : List (Nat × LoopSpec) := [(0, d93O.spec), (2, d93I.spec)]
theorem r93i : (fun x : L93I => roundOf (mkC tys rlkG rlkL) d93I (loopB 2 (bodyOf (fnOf Tryd.prog 93))) x) =
  (fun x =>
    Tree.br (decide (x.1.2.2.2.1 < x.1.2.2.1))
      (Tree.need ((0 : Int) ≤ x.1.2.2.2.1 ∧ x.1.2.2.2.1 < (↑(List.length x.1.2.1) : Int))
        (Tree.leaf
          (Ex.normal,
            some
              ((bif
                      bif
                          bif
                              decide
                                (x.2.1.1 < (List.getD x.1.2.1 (Int.toNat x.1.2.2.2.1) ((0 : Int), ((0 : Int), (0 : Int), (0 : Int), (0 : Int)), (0 : Int), List.replicate (16 : Nat) (0 : Int))).1) then
                            hasF x.2.1.2.2.1 (List.getD x.1.2.1 (Int.toNat x.1.2.2.2.1) ((0 : Int), ((0 : Int), (0 : Int), (0 : Int), (0 : Int)), (0 : Int), List.replicate (16 : Nat) (0 : Int))).1
                          else false then
                        hasF (List.getD x.1.2.1 (Int.toNat x.1.2.2.2.1) ((0 : Int), ((0 : Int), (0 : Int), (0 : Int), (0 : Int)), (0 : Int), List.replicate (16 : Nat) (0 : Int))).2.2.1 x.2.1.1
                      else false then
                    IntKind.wrap IntKind.i64 (x.1.1 + (1 : Int))
                  else x.1.1,
                  x.1.2.1, x.1.2.2.1, IntKind.wrap IntKind.i64 (x.1.2.2.2.1 + (1 : Int)), ()),
                x.2.1, ()))))
      (Tree.leaf (Ex.exit (2 : Nat), some ((x.1.1, x.1.2.1, x.1.2.2.1, x.1.2.2.2.1, ()), x.2.1, ())))) := by kernel_rfl
theorem r93o : (fun x : L93O => roundOf (mkC tys rlkG rlkL) d93O (loopB 0 (bodyOf (fnOf Tryd.prog 93))) x) =
  (fun x =>
    Tree.br (decide (x.1.2.2.2.2.1 < x.1.2.2.2.1))
      (Tree.need ((0 : Int) ≤ x.1.2.2.2.2.1 ∧ x.1.2.2.2.2.1 < (↑(List.length x.1.2.2.1) : Int))
        (Tree.need
          (p93I
            ((x.1.2.1, x.1.1, (↑(List.length x.1.1) : Int), (0 : Int), PUnit.unit),
              List.getD x.1.2.2.1 (Int.toNat x.1.2.2.2.2.1) ((0 : Int), ((0 : Int), (0 : Int), (0 : Int), (0 : Int)), (0 : Int), List.replicate (16 : Nat) (0 : Int)), PUnit.unit))
          (Tree.leaf
            (Ex.normal,
              some
                ((x.1.1,
                    x.1.2.1 +
                      cntP (List.getD x.1.2.2.1 (Int.toNat x.1.2.2.2.2.1) ((0 : Int), ((0 : Int), (0 : Int), (0 : Int), (0 : Int)), (0 : Int), List.replicate (16 : Nat) (0 : Int)))
                        (List.drop (Int.toNat (0 : Int)) x.1.1),
                    x.1.2.2.1, x.1.2.2.2.1, IntKind.wrap IntKind.i64 (x.1.2.2.2.2.1 + (1 : Int)), ()),
                  ())))))
      (Tree.leaf (Ex.exit (0 : Nat), some ((x.1.1, x.1.2.1, x.1.2.2.1, x.1.2.2.2.1, x.1.2.2.2.2.1, ()), ())))) := by kernel_rfl
theorem rlk_tree : (fun x : List DConf => evFn (mkC tys rlkG rlkL) (fnOf Tryd.prog 93) (resL rlkC.args x) rlkC.res) =
  (fun x => Tree.need (p93O ((x, (0 : Int), x, (↑(List.length x) : Int), (0 : Int), PUnit.unit), PUnit.unit)) (Tree.leaf ((0 : Int) + allP x (List.drop (Int.toNat (0 : Int)) x)))) := by kernel_rfl
def gMat : GTy := .arr 16 (.arr 16 (.int .i64))
def d92B : LoopD where
  prom := []
  ts := [(3, .ptr 3 gMat), (5, .ptr 5 gConf), (20, .val (.int .i64))]
  bs := [(3, .var gMat), (5, .var gConf)]
  pre := fun (x : L92B) => p92B x
  out := fun (x : L92B) => .leaf (.exit 2, ((16, ()), (incs x.2.2.1 (16 - x.1.1).toNat x.1.1 x.2.1, x.2.2.1, ())))
def d92A : LoopD where
  prom := []
  ts := [(3, .ptr 3 gMat), (10, .val (.sl gConf)), (11, .val (.int .i64)), (12, .val (.int .i64))]
  bs := [(3, .var gMat)]
  pre := fun (x : L92A) => p92A x
  out := fun (x : L92A) => .leaf (.exit 0, ((x.1.1, x.1.2.1, x.1.2.1, ()), (matL x.2.1 (x.1.1.drop x.1.2.2.1.toNat), ())))
def d92D : LoopD where
  prom := []
  ts := [(3, .ptr 3 gMat), (7, .val (.int .i64)), (8, .val (.int .i64)), (9, .val (.int .i64))]
  bs := [(3, .var gMat)]
  pre := fun (x : L92D) => p92D x
  out := fun (x : L92D) => .leaf (.exit 6, ((x.1.1 + sumT (prodM x.2.1 x.1.2.1) (16 - x.1.2.2.1).toNat x.1.2.2.1, x.1.2.1, 16, ()), (x.2.1, ())))
def d92C : LoopD where
  prom := []
  ts := [(3, .ptr 3 gMat), (7, .val (.int .i64)), (39, .val (.int .i64))]
  bs := [(3, .var gMat)]
  pre := fun (x : L92C) => p92C x
  out := fun (x : L92C) => .leaf (.exit 4, ((x.1.1 + sumT (fun a => sumT (prodM x.2.1 a) (15 - a).toNat (a + 1)) (16 - x.1.2.1).toNat x.1.2.1, 16, ()), (x.2.1, ())))
noncomputable def lkL : List (Nat × LoopSpec) := [(0, d92A.spec), (2, d92B.spec), (4, d92C.spec), (6, d92D.spec)]
theorem r92b : (fun x : L92B => roundOf (mkC tys lkG lkL) d92B (loopB 2 (bodyOf (fnOf Tryd.prog 92))) x) =
  (fun x =>
    Tree.br (decide (x.1.1 < (16 : Int)))
      (Tree.need (hasF x.2.2.1.2.2.1 x.1.1 = true → (0 : Int) ≤ x.2.2.1.1 ∧ x.2.2.1.1 < (16 : Int))
        (Tree.need (hasF x.2.2.1.2.2.1 x.1.1 = true → (0 : Int) ≤ x.1.1 ∧ x.1.1 < (16 : Int))
          (Tree.need (hasF x.2.2.1.2.2.1 x.1.1 = true → (0 : Int) ≤ x.2.2.1.1 ∧ x.2.2.1.1 < (16 : Int))
            (Tree.need (hasF x.2.2.1.2.2.1 x.1.1 = true → (0 : Int) ≤ x.1.1 ∧ x.1.1 < (16 : Int))
              (Tree.leaf
                (Ex.normal,
                  some
                    ((IntKind.wrap IntKind.i64 (x.1.1 + (1 : Int)), ()),
                      bif hasF x.2.2.1.2.2.1 x.1.1 then
                        List.set x.2.1 (Int.toNat x.2.2.1.1)
                          (List.set (List.getD x.2.1 (Int.toNat x.2.2.1.1) (List.replicate (16 : Nat) (0 : Int))) (Int.toNat x.1.1)
                            (IntKind.wrap IntKind.i64 (List.getD (List.getD x.2.1 (Int.toNat x.2.2.1.1) (List.replicate (16 : Nat) (0 : Int))) (Int.toNat x.1.1) (0 : Int) + (1 : Int))))
                      else x.2.1,
                      x.2.2.1, ())))))))
      (Tree.leaf (Ex.exit (2 : Nat), some ((x.1.1, ()), x.2.1, x.2.2.1, ())))) := by kernel_rfl
theorem r92a : (fun x : L92A => roundOf (mkC tys lkG lkL) d92A (loopB 0 (bodyOf (fnOf Tryd.prog 92))) x) =
  (fun x =>
    Tree.br (decide (x.1.2.2.1 < x.1.2.1))
      (Tree.need ((0 : Int) ≤ x.1.2.2.1 ∧ x.1.2.2.1 < (↑(List.length x.1.1) : Int))
        (Tree.br (!rightF (List.getD x.1.1 (Int.toNat x.1.2.2.1) ((0 : Int), ((0 : Int), (0 : Int), (0 : Int), (0 : Int)), (0 : Int), List.replicate (16 : Nat) (0 : Int))).1)
          (Tree.leaf (Ex.normal, some ((x.1.1, x.1.2.1, IntKind.wrap IntKind.i64 (x.1.2.2.1 + (1 : Int)), ()), x.2.1, ())))
          (Tree.need
            (p92B
              (((0 : Int), PUnit.unit), x.2.1, List.getD x.1.1 (Int.toNat x.1.2.2.1) ((0 : Int), ((0 : Int), (0 : Int), (0 : Int), (0 : Int)), (0 : Int), List.replicate (16 : Nat) (0 : Int)),
                PUnit.unit))
            (Tree.leaf
              (Ex.normal,
                some
                  ((x.1.1, x.1.2.1, IntKind.wrap IntKind.i64 (x.1.2.2.1 + (1 : Int)), ()),
                    incs (List.getD x.1.1 (Int.toNat x.1.2.2.1) ((0 : Int), ((0 : Int), (0 : Int), (0 : Int), (0 : Int)), (0 : Int), List.replicate (16 : Nat) (0 : Int)))
                      (Int.toNat ((16 : Int) - (0 : Int))) (0 : Int) x.2.1,
                    ()))))))
      (Tree.leaf (Ex.exit (0 : Nat), some ((x.1.1, x.1.2.1, x.1.2.2.1, ()), x.2.1, ())))) := by kernel_rfl
theorem r92d : (fun x : L92D => roundOf (mkC tys lkG lkL) d92D (loopB 6 (bodyOf (fnOf Tryd.prog 92))) x) =
  (fun x =>
    Tree.br (decide (x.1.2.2.1 < (16 : Int)))
      (Tree.need ((0 : Int) ≤ x.1.2.1 ∧ x.1.2.1 < (16 : Int))
        (Tree.need ((0 : Int) ≤ x.1.2.2.1 ∧ x.1.2.2.1 < (16 : Int))
          (Tree.need ((0 : Int) ≤ x.1.2.2.1 ∧ x.1.2.2.1 < (16 : Int))
            (Tree.need ((0 : Int) ≤ x.1.2.1 ∧ x.1.2.1 < (16 : Int))
              (Tree.leaf
                (Ex.normal,
                  some
                    ((IntKind.wrap IntKind.i64
                          (x.1.1 +
                            IntKind.wrap IntKind.i64
                              (List.getD (List.getD x.2.1 (Int.toNat x.1.2.1) (List.replicate (16 : Nat) (0 : Int))) (Int.toNat x.1.2.2.1) (0 : Int) *
                                List.getD (List.getD x.2.1 (Int.toNat x.1.2.2.1) (List.replicate (16 : Nat) (0 : Int))) (Int.toNat x.1.2.1) (0 : Int))),
                        x.1.2.1, IntKind.wrap IntKind.i64 (x.1.2.2.1 + (1 : Int)), ()),
                      x.2.1, ())))))))
      (Tree.leaf (Ex.exit (6 : Nat), some ((x.1.1, x.1.2.1, x.1.2.2.1, ()), x.2.1, ())))) := by kernel_rfl
theorem r92c : (fun x : L92C => roundOf (mkC tys lkG lkL) d92C (loopB 4 (bodyOf (fnOf Tryd.prog 92))) x) =
  (fun x =>
    Tree.br (decide (x.1.2.1 < (16 : Int)))
      (Tree.need (p92D ((x.1.1, x.1.2.1, IntKind.wrap IntKind.i64 (x.1.2.1 + (1 : Int)), PUnit.unit), x.2.1, PUnit.unit))
        (Tree.leaf
          (Ex.normal,
            some
              ((x.1.1 + sumT (prodM x.2.1 x.1.2.1) (Int.toNat ((16 : Int) - IntKind.wrap IntKind.i64 (x.1.2.1 + (1 : Int)))) (IntKind.wrap IntKind.i64 (x.1.2.1 + (1 : Int))),
                  IntKind.wrap IntKind.i64 (x.1.2.1 + (1 : Int)), ()),
                x.2.1, ()))))
      (Tree.leaf (Ex.exit (4 : Nat), some ((x.1.1, x.1.2.1, ()), x.2.1, ())))) := by kernel_rfl
theorem lk_tree : (fun x : List DConf => evFn (mkC tys lkG lkL) (fnOf Tryd.prog 92) (resL lkC.args x) lkC.res) =
  (fun x =>
    Tree.need (p92A ((x, (↑(List.length x) : Int), (0 : Int), PUnit.unit), List.replicate (16 : Nat) (List.replicate (16 : Nat) (0 : Int)), PUnit.unit))
      (Tree.need (p92C (((0 : Int), (0 : Int), PUnit.unit), matL (List.replicate (16 : Nat) (List.replicate (16 : Nat) (0 : Int))) (List.drop (Int.toNat (0 : Int)) x), PUnit.unit))
        (Tree.leaf
          ((0 : Int) +
            sumT (fun a => sumT (prodM (matL (List.replicate (16 : Nat) (List.replicate (16 : Nat) (0 : Int))) (List.drop (Int.toNat (0 : Int)) x)) a) (Int.toNat ((15 : Int) - a)) (a + (1 : Int)))
              (Int.toNat ((16 : Int) - (0 : Int))) (0 : Int))))) := by kernel_rfl
theorem l93i : LoopOK (mkC tys rlkG rlkL) d93I.spec (loopB 2 (bodyOf (fnOf Tryd.prog 93))) :=
  loopD_ok1 (fun _ => rfl) (fun x => congrFun r93i x) (fun (x : L93I) => (x.1.2.2.1 - x.1.2.2.2.1).toNat) fun (x : L93I) hp => by
    obtain ⟨⟨n, l, len, i, ⟨⟩⟩, c, ⟨⟩⟩ := x
    obtain ⟨h1, h2, h3, h4, h5, h6⟩ := hp
    simp only at h1 h2 h3 h4 h5 h6
    have hz : ((0 : Int), ((0 : Int), (0 : Int), (0 : Int), (0 : Int)), (0 : Int), List.replicate (16 : Nat) (0 : Int)) = zeroConf := rfl
    simp only [Tree.holds, hz]
    refine ⟨fun h => ?_, fun h => ?_⟩
    · have h' : i < len := of_decide_eq_true h
      have e : IntKind.i64.wrap (i + 1) = i + 1 := i64_id (by omega) (by omega)
      have en : IntKind.i64.wrap (n + 1) = n + 1 := i64_id (by omega) (by omega)
      have hd := drop_any (l := l) zeroConf h1 (by omega)
      rw [e, en]
      have hk : (bif bif bif decide (c.1 < (l.getD i.toNat zeroConf).1) then hasF c.2.2.1 (l.getD i.toNat zeroConf).1 else false then hasF (l.getD i.toNat zeroConf).2.2.1 c.1 else false then n + 1 else n) = n + (bif pairF c (l.getD i.toNat zeroConf) then 1 else 0) := by
        unfold pairF
        cases (bif bif decide (c.1 < (l.getD i.toNat zeroConf).1) then hasF c.2.2.1 (l.getD i.toNat zeroConf).1 else false then hasF (l.getD i.toNat zeroConf).2.2.1 c.1 else false) with
        | true => rfl
        | false => exact (Int.add_zero n).symm
      rw [hk]
      generalize hq : (bif pairF c (l.getD i.toNat zeroConf) then (1 : Int) else 0) = q
      have hq2 : 0 ≤ q ∧ q ≤ 1 := by
        rw [← hq]
        cases pairF c (l.getD i.toNat zeroConf) <;> decide
      refine ⟨⟨h1, by omega⟩, _, rfl, ⟨by show 0 ≤ i + 1; omega, by show i + 1 ≤ len; omega, h3, h4, by show 0 ≤ n + q; omega, by show n + q ≤ 400 + (i + 1); omega⟩, by show (len - (i + 1)).toNat < (len - i).toNat; omega, ?_⟩
      show (Ex.exit 2, ((n + q + cntP c (l.drop (i + 1).toNat), l, len, len, ()), (c, ()))) = (Ex.exit 2, ((n + cntP c (l.drop i.toNat), l, len, len, ()), (c, ())))
      rw [hd]
      unfold cntP
      rw [hq, Int.add_assoc]
      cases l.drop (i + 1).toNat <;> rfl
    · have h' : ¬ i < len := of_decide_eq_false h
      have hi : i = len := by omega
      subst hi
      refine ⟨_, rfl, ?_⟩
      show (Ex.exit 2, ((n + cntP c (l.drop i.toNat), l, i, i, ()), (c, ()))) = _
      rw [List.drop_eq_nil_of_le (by omega), show cntP c [] = 0 from rfl, Int.add_zero]
      rfl
theorem l93o : LoopOK (mkC tys rlkG rlkL) d93O.spec (loopB 0 (bodyOf (fnOf Tryd.prog 93))) :=
  loopD_ok1 (fun _ => rfl) (fun x => congrFun r93o x) (fun (x : L93O) => (x.1.2.2.2.1 - x.1.2.2.2.2.1).toNat) fun (x : L93O) hp => by
    obtain ⟨⟨l0, n, l, len, i, ⟨⟩⟩, ⟨⟩⟩ := x
    obtain ⟨h1, h2, h3, h4, h5, h6, h7⟩ := hp
    simp only at h1 h2 h3 h4 h5 h6 h7
    have hz : ((0 : Int), ((0 : Int), (0 : Int), (0 : Int), (0 : Int)), (0 : Int), List.replicate (16 : Nat) (0 : Int)) = zeroConf := rfl
    simp only [Tree.holds, hz]
    refine ⟨fun h => ?_, fun h => ?_⟩
    · have h' : i < len := of_decide_eq_true h
      have e : IntKind.i64.wrap (i + 1) = i + 1 := i64_id (by omega) (by omega)
      have hd := drop_any (l := l) zeroConf h1 (by omega)
      have e0 : l0.drop (0 : Int).toNat = l0 := rfl
      have hc := cntP_in (l.getD i.toNat zeroConf) l0
      rw [e, e0]
      generalize hq : cntP (l.getD i.toNat zeroConf) l0 = q at hc ⊢
      refine ⟨⟨h1, by omega⟩, ⟨Int.le_refl _, by show (0 : Int) ≤ (l0.length : Int); omega, rfl, by show (l0.length : Int) ≤ 20; omega, h5, by show n ≤ 400 + 0; omega⟩, _, rfl, ⟨by show 0 ≤ i + 1; omega, by show i + 1 ≤ len; omega, h3, h4, by show 0 ≤ n + q; omega, by show n + q ≤ 20 * (i + 1); omega, h7⟩, by show (len - (i + 1)).toNat < (len - i).toNat; omega, ?_⟩
      show (Ex.exit 0, ((l0, n + q + allP l0 (l.drop (i + 1).toNat), l, len, len, ()), ())) = (Ex.exit 0, ((l0, n + allP l0 (l.drop i.toNat), l, len, len, ()), ()))
      rw [hd, ← hq]
      show _ = (Ex.exit 0, ((l0, n + (cntP (l.getD i.toNat zeroConf) l0 + allP l0 (l.drop (i + 1).toNat)), l, len, len, ()), ()))
      rw [Int.add_assoc]
    · have h' : ¬ i < len := of_decide_eq_false h
      have hi : i = len := by omega
      subst hi
      refine ⟨_, rfl, ?_⟩
      show (Ex.exit 0, ((l0, n + allP l0 (l.drop i.toNat), l, i, i, ()), ())) = _
      rw [List.drop_eq_nil_of_le (by omega), show allP l0 [] = 0 from rfl, Int.add_zero]
      rfl
theorem rlk_ok : CtrOK Tryd.prog 93 rlkC :=
  fun_ok (G := rlkG) (Λ := rlkL) tysOK rlkG_ok mixed (by kernel_rfl) (by kernel_rfl) (by kernel_rfl) (by kernel_rfl) (lp_cons l93o (lp_cons l93i lp_nil)) fun (x : List DConf) hw hp => by
    have hx : x.length ≤ 20 := hp (fun (x : List DConf) => x.length ≤ 20) rfl
    rw [congrFun rlk_tree x]
    refine ⟨⟨Int.le_refl _, by show (0 : Int) ≤ (x.length : Int); omega, rfl, by show (x.length : Int) ≤ 20; omega, Int.le_refl _, Int.le_refl _, hx⟩, ?_⟩
    show (0 : Int) + allP x x = allP x x
    rw [Int.zero_add]
theorem l92a : LoopOK (mkC tys lkG lkL) d92A.spec (loopB 0 (bodyOf (fnOf Tryd.prog 92))) :=
  loopD_ok1 (fun _ => rfl) (fun x => congrFun r92a x) (fun (x : L92A) => (x.1.2.1 - x.1.2.2.1).toNat) fun (x : L92A) hp => by
    obtain ⟨⟨l, len, i, ⟨⟩⟩, m, ⟨⟩⟩ := x
    obtain ⟨h1, h2, h3, h4, h5⟩ := hp
    simp only at h1 h2 h3 h4 h5
    have hz : ((0 : Int), ((0 : Int), (0 : Int), (0 : Int), (0 : Int)), (0 : Int), List.replicate (16 : Nat) (0 : Int)) = zeroConf := rfl
    simp only [Tree.holds, hz]
    refine ⟨fun h => ?_, fun h => ?_⟩
    · have h' : i < len := of_decide_eq_true h
      have e : IntKind.i64.wrap (i + 1) = i + 1 := i64_id (by omega) (by omega)
      have hd := drop_any (l := l) zeroConf h1 (by omega)
      rw [e]
      generalize l.getD i.toNat zeroConf = c at hd ⊢
      have hml : matL m (l.drop i.toNat) = matL (bif !rightF c.1 then m else incs c 16 0 m) (l.drop (i + 1).toNat) := by rw [hd]; rfl
      have hout : ∀ m2, m2 = (bif !rightF c.1 then m else incs c 16 0 m) → (Ex.exit 0, ((l, len, len, ()), (matL m2 (l.drop (i + 1).toNat), ()))) = (Ex.exit 0, ((l, len, len, ()), (matL m (l.drop i.toNat), ()))) := by
        rintro m2 rfl
        rw [hml]
      refine ⟨⟨h1, by omega⟩, fun g => ?_, fun g => ⟨?_, ?_⟩⟩
      · exact ⟨_, rfl, ⟨by show 0 ≤ i + 1; omega, by show i + 1 ≤ len; omega, h3, h4, matOK_mono (by show 16 * i ≤ 16 * (i + 1); omega) h5⟩, by show (len - (i + 1)).toNat < (len - i).toNat; omega, hout _ (by rw [g]; rfl)⟩
      · have g2 : rightF c.1 = true := by cases hr : rightF c.1 with
          | true => rfl
          | false => rw [hr] at g; cases g
        exact ⟨Int.le_refl _, by show (0 : Int) ≤ 16; omega, g2, matOK_mono (by show 16 * i ≤ 320 + 0; omega) h5⟩
      · have g2 : rightF c.1 = true := by cases hr : rightF c.1 with
          | true => rfl
          | false => rw [hr] at g; cases g
        exact ⟨_, rfl, ⟨by show 0 ≤ i + 1; omega, by show i + 1 ≤ len; omega, h3, h4, matOK_mono (by show 16 * i + (16 : Nat) ≤ 16 * (i + 1); omega) (incs_ok g2 16 0 h5 (Int.le_refl _) (by omega))⟩, by show (len - (i + 1)).toNat < (len - i).toNat; omega, hout _ (by rw [g]; rfl)⟩
    · have h' : ¬ i < len := of_decide_eq_false h
      have hi : i = len := by omega
      subst hi
      refine ⟨_, rfl, ?_⟩
      show (Ex.exit 0, ((l, i, i, ()), (matL m (l.drop i.toNat), ()))) = _
      rw [List.drop_eq_nil_of_le (by omega)]
      rfl
theorem l92d : LoopOK (mkC tys lkG lkL) d92D.spec (loopB 6 (bodyOf (fnOf Tryd.prog 92))) :=
  loopD_ok1 (fun _ => rfl) (fun x => congrFun r92d x) (fun (x : L92D) => (16 - x.1.2.2.1).toNat) fun (x : L92D) hp => by
    obtain ⟨⟨s, a, b, ⟨⟩⟩, m, ⟨⟩⟩ := x
    obtain ⟨h1, h2, h3, h4, h5, h6, h7⟩ := hp
    simp only at h1 h2 h3 h4 h5 h6 h7
    have hg : ∀ i j : Int, (m.getD i.toNat (List.replicate (16 : Nat) (0 : Int))).getD j.toNat 0 = gM m i j := fun _ _ => rfl
    have hpm : gM m a b * gM m b a = prodM m a b := rfl
    simp only [Tree.holds, hg, hpm]
    refine ⟨fun h => ?_, fun h => ?_⟩
    · have h' : b < 16 := of_decide_eq_true h
      have hq := prod_in h5 h1 h2 h3 h'
      generalize hqe : prodM m a b = q at hq ⊢
      have e1 : IntKind.i64.wrap q = q := i64_id (by omega) (by omega)
      have e2 : IntKind.i64.wrap (s + q) = s + q := i64_id (by omega) (by omega)
      have e3 : IntKind.i64.wrap (b + 1) = b + 1 := i64_id (by omega) (by omega)
      rw [e1, e2, e3]
      refine ⟨⟨h1, h2⟩, ⟨h3, h'⟩, ⟨h3, h'⟩, ⟨h1, h2⟩, _, rfl, ⟨h1, h2, by show 0 ≤ b + 1; omega, by show b + 1 ≤ 16; omega, h5, by show 0 ≤ s + q; omega, by show s + q ≤ 200000 * (16 * a + (b + 1)); omega⟩, by show (16 - (b + 1)).toNat < (16 - b).toNat; omega, ?_⟩
      show (Ex.exit 6, ((s + q + sumT (prodM m a) (16 - (b + 1)).toNat (b + 1), a, 16, ()), (m, ()))) = (Ex.exit 6, ((s + sumT (prodM m a) (16 - b).toNat b, a, 16, ()), (m, ())))
      rw [show (16 - b).toNat = (16 - (b + 1)).toNat + 1 by omega, sumT, hqe, Int.add_assoc]
    · have h' : ¬ b < 16 := of_decide_eq_false h
      have hi : b = 16 := by omega
      subst hi
      refine ⟨_, rfl, ?_⟩
      show (Ex.exit 6, ((s + 0, a, 16, ()), (m, ()))) = _
      rw [Int.add_zero]
      rfl
theorem l92c : LoopOK (mkC tys lkG lkL) d92C.spec (loopB 4 (bodyOf (fnOf Tryd.prog 92))) :=
  loopD_ok1 (fun _ => rfl) (fun x => congrFun r92c x) (fun (x : L92C) => (16 - x.1.2.1).toNat) fun (x : L92C) hp => by
    obtain ⟨⟨s, a, ⟨⟩⟩, m, ⟨⟩⟩ := x
    obtain ⟨h1, h2, h3, h4, h5⟩ := hp
    simp only at h1 h2 h3 h4 h5
    simp only [Tree.holds]
    refine ⟨fun h => ?_, fun h => ?_⟩
    · have h' : a < 16 := of_decide_eq_true h
      have e3 : IntKind.i64.wrap (a + 1) = a + 1 := i64_id (by omega) (by omega)
      rw [e3]
      have hq := row_sum h3 h1 h' (b := a + 1) (by omega) (by omega)
      have e15 : (16 - (a + 1)).toNat = (15 - a).toNat := by omega
      rw [e15] at hq ⊢
      generalize hqe : sumT (prodM m a) (15 - a).toNat (a + 1) = q at hq ⊢
      refine ⟨⟨h1, h', by show 0 ≤ a + 1; omega, by show a + 1 ≤ 16; omega, h3, h4, by show s ≤ 200000 * (16 * a + (a + 1)); omega⟩, _, rfl, ⟨by show 0 ≤ a + 1; omega, by show a + 1 ≤ 16; omega, h3, by show 0 ≤ s + q; omega, by show s + q ≤ 200000 * (16 * (a + 1)); omega⟩, by show (16 - (a + 1)).toNat < (16 - a).toNat; omega, ?_⟩
      show (Ex.exit 4, ((s + q + sumT (fun a => sumT (prodM m a) (15 - a).toNat (a + 1)) (16 - (a + 1)).toNat (a + 1), 16, ()), (m, ()))) = (Ex.exit 4, ((s + sumT (fun a => sumT (prodM m a) (15 - a).toNat (a + 1)) (16 - a).toNat a, 16, ()), (m, ())))
      rw [show (16 - a).toNat = (16 - (a + 1)).toNat + 1 by omega, sumT, hqe, Int.add_assoc]
    · have h' : ¬ a < 16 := of_decide_eq_false h
      have hi : a = 16 := by omega
      subst hi
      refine ⟨_, rfl, ?_⟩
      show (Ex.exit 4, ((s + 0, 16, ()), (m, ()))) = _
      rw [Int.add_zero]
      rfl
theorem l92b : LoopOK (mkC tys lkG lkL) d92B.spec (loopB 2 (bodyOf (fnOf Tryd.prog 92))) :=
  loopD_ok1 (fun _ => rfl) (fun x => congrFun r92b x) (fun (x : L92B) => (16 - x.1.1).toNat) fun (x : L92B) hp => by
    obtain ⟨⟨i, ⟨⟩⟩, m, c, ⟨⟩⟩ := x
    obtain ⟨h1, h2, h3, h4⟩ := hp
    simp only at h1 h2 h3 h4
    have hr := right_in h3
    have hgd : ∀ a b : Int, (m.getD a.toNat (List.replicate (16 : Nat) (0 : Int))).getD b.toNat 0 = gM m a b := fun _ _ => rfl
    simp only [Tree.holds, hgd]
    refine ⟨fun h => ?_, fun h => ?_⟩
    · have h' : i < 16 := of_decide_eq_true h
      have e : IntKind.i64.wrap (i + 1) = i + 1 := i64_id (by omega) (by omega)
      have hq := gM_in h4 hr.1 hr.2 h1 h'
      have e2 : IntKind.i64.wrap (gM m c.1 i + 1) = gM m c.1 i + 1 := i64_id (by omega) (by omega)
      have hm : (bif hasF c.2.2.1 i then m.set c.1.toNat ((m.getD c.1.toNat (List.replicate 16 0)).set i.toNat (gM m c.1 i + 1)) else m) = (bif hasF c.2.2.1 i then incF m c.1 i else m) := rfl
      rw [e, e2, hm]
      have hok : matOK (bif hasF c.2.2.1 i then incF m c.1 i else m) (320 + (i + 1)) := by
        cases hasF c.2.2.1 i with
        | true => exact matOK_mono (by omega) (inc_ok h4 hr.1 hr.2 h1 h')
        | false => exact matOK_mono (by omega) h4
      refine ⟨fun _ => hr, fun _ => ⟨h1, h'⟩, fun _ => hr, fun _ => ⟨h1, h'⟩, _, rfl, ⟨by show 0 ≤ i + 1; omega, by show i + 1 ≤ 16; omega, h3, hok⟩, by show (16 - (i + 1)).toNat < (16 - i).toNat; omega, ?_⟩
      show (Ex.exit 2, ((16, ()), (incs c (16 - (i + 1)).toNat (i + 1) (bif hasF c.2.2.1 i then incF m c.1 i else m), c, ()))) = (Ex.exit 2, ((16, ()), (incs c (16 - i).toNat i m, c, ())))
      rw [show (16 - i).toNat = (16 - (i + 1)).toNat + 1 by omega]
      rfl
    · have h' : ¬ i < 16 := of_decide_eq_false h
      have hi : i = 16 := by omega
      subst hi
      exact ⟨_, rfl, rfl⟩
theorem lk_ok : CtrOK Tryd.prog 92 lkC :=
  fun_ok (G := lkG) (Λ := lkL) tysOK lkG_ok mixed (by kernel_rfl) (by kernel_rfl) (by kernel_rfl) (by kernel_rfl) (lp_cons l92a (lp_cons l92b (lp_cons l92c (lp_cons l92d lp_nil)))) fun (x : List DConf) hw hp => by
    have hx : x.length ≤ 20 := hp (fun (x : List DConf) => x.length ≤ 20) rfl
    rw [congrFun lk_tree x]
    have hm := matL_ok x zeroM_ok
    refine ⟨⟨Int.le_refl _, by show (0 : Int) ≤ (x.length : Int); omega, rfl, by show (x.length : Int) ≤ 20; omega, zeroM_ok⟩, ⟨Int.le_refl _, by show (0 : Int) ≤ 16; omega, matOK_mono (by omega) hm, Int.le_refl _, Int.le_refl _⟩, ?_⟩
    show (0 : Int) + sumT (fun a => sumT (prodM (matL zeroM x) a) (15 - a).toNat (a + 1)) 16 0 = linksF x
    rw [Int.zero_add]
    rfl
end Go.Ev.D
/- Several configurations printed, parsed and linked: the law. -/
set_option linter.unusedVariables false
set_option linter.unusedSimpArgs false
namespace Go.Ev.D
open Go.Proofs
def rgC : Ctr := pgC
def call35G : List (Nat × Ctr) := [(73, awake35C), (88, pallC), (89, wpallC), (90, pgC), (91, rgC), (92, lkC), (93, rlkC)]
theorem call35G_ok : CtrsOK Tryd.prog (fun f => lk f call35G) := (ctrs_cons awake35_ok (ctrs_cons pall_ok (ctrs_cons wpall_ok (ctrs_cons pg_ok (ctrs_cons rg_ok (ctrs_cons lk_ok (ctrs_cons rlk_ok ctrs_nil)))))))
def callC35 : Ctr := { args := [.sl gConf, .str], res := [.bool], pre := some (smallD [.sl gConf, .str]), fn := fun _ => true }
abbrev CaS := (Bool × List DConf × List DConf × Int × Int × Unit) × Unit
abbrev CbS := (List DConf × Bool × List DConf × Int × Int × Unit) × Unit
def caPre (x : CaS) : Prop := x.1.2.1 = x.1.2.2.1 ∧ 0 ≤ x.1.2.2.2.2.1 ∧ x.1.2.2.2.2.1 ≤ x.1.2.2.2.1 ∧ x.1.2.2.2.1 = x.1.2.1.length ∧ x.1.2.2.2.1 ≤ 10000
def cbPre (x : CbS) : Prop := x.1.1 = x.1.2.2.1 ∧ 0 ≤ x.1.2.2.2.2.1 ∧ x.1.2.2.2.2.1 ≤ x.1.2.2.2.1 ∧ x.1.2.2.2.1 = x.1.2.2.1.length ∧ x.1.2.2.2.1 ≤ 10000
def caD : LoopD where
  prom := []
  ts := [(4, .val .bool), (9, .val (.sl gConf)), (12, .val (.sl gConf)), (86, .val (.int .i64)), (87, .val (.int .i64))]
  bs := []
  pre := fun (x : CaS) => caPre x
  out := fun (x : CaS) => .leaf (.exit 0, ((x.1.1, x.1.2.1, x.1.2.2.1, x.1.2.2.2.1, x.1.2.2.2.1, ()), ()))
def cbD : LoopD where
  prom := []
  ts := [(0, .val (.sl gConf)), (4, .val .bool), (16, .val (.sl gConf)), (122, .val (.int .i64)), (123, .val (.int .i64))]
  bs := []
  pre := fun (x : CbS) => cbPre x
  out := fun (x : CbS) => .leaf (.exit 2, ((x.1.1, x.1.2.1, x.1.2.2.1, x.1.2.2.2.1, x.1.2.2.2.1, ()), ()))
noncomputable def call35L : List (Nat × LoopSpec) := [(0, caD.spec), (2, cbD.spec)]
theorem ca_round : (fun x : CaS => roundOf (mkC tys call35G call35L) caD (loopB 0 (bodyOf (fnOf Tryd.prog 16))) x) =
  (fun x =>
    Tree.br (decide (x.1.2.2.2.2.1 < x.1.2.2.2.1))
      (Tree.need ((0 : Int) ≤ x.1.2.2.2.2.1 ∧ x.1.2.2.2.2.1 < (↑(List.length x.1.2.1) : Int))
        (Tree.need ((0 : Int) ≤ x.1.2.2.2.2.1 ∧ x.1.2.2.2.2.1 < (↑(List.length x.1.2.2.1) : Int))
          (Tree.br
            (!geq
                (GTy.prod (GTy.int IntKind.i64)
                  (GTy.prod (GTy.prod (GTy.int IntKind.i64) (GTy.prod (GTy.int IntKind.i64) (GTy.prod (GTy.int IntKind.i64) (GTy.int IntKind.i64))))
                    (GTy.prod (GTy.int IntKind.i64) (GTy.arr (16 : Nat) (GTy.int IntKind.u32)))))
                (List.getD x.1.2.1 (Int.toNat x.1.2.2.2.2.1) ((0 : Int), ((0 : Int), (0 : Int), (0 : Int), (0 : Int)), (0 : Int), List.replicate (16 : Nat) (0 : Int)))
                (List.getD x.1.2.2.1 (Int.toNat x.1.2.2.2.2.1) ((0 : Int), ((0 : Int), (0 : Int), (0 : Int), (0 : Int)), (0 : Int), List.replicate (16 : Nat) (0 : Int))))
            (Tree.leaf (Ex.ret, some ((false, x.1.2.1, x.1.2.2.1, x.1.2.2.2.1, x.1.2.2.2.2.1, ()), ())))
            (Tree.leaf (Ex.normal, some ((x.1.1, x.1.2.1, x.1.2.2.1, x.1.2.2.2.1, IntKind.wrap IntKind.i64 (x.1.2.2.2.2.1 + (1 : Int)), ()), ()))))))
      (Tree.leaf (Ex.exit (0 : Nat), some ((x.1.1, x.1.2.1, x.1.2.2.1, x.1.2.2.2.1, x.1.2.2.2.2.1, ()), ())))) := by kernel_rfl
theorem cb_round : (fun x : CbS => roundOf (mkC tys call35G call35L) cbD (loopB 2 (bodyOf (fnOf Tryd.prog 16))) x) =
  (fun x =>
    Tree.br (decide (x.1.2.2.2.2.1 < x.1.2.2.2.1))
      (Tree.need ((0 : Int) ≤ x.1.2.2.2.2.1 ∧ x.1.2.2.2.2.1 < (↑(List.length x.1.2.2.1) : Int))
        (Tree.need ((0 : Int) ≤ x.1.2.2.2.2.1 ∧ x.1.2.2.2.2.1 < (↑(List.length x.1.1) : Int))
          (Tree.br
            (!geq
                (GTy.prod (GTy.int IntKind.i64)
                  (GTy.prod (GTy.prod (GTy.int IntKind.i64) (GTy.prod (GTy.int IntKind.i64) (GTy.prod (GTy.int IntKind.i64) (GTy.int IntKind.i64))))
                    (GTy.prod (GTy.int IntKind.i64) (GTy.arr (16 : Nat) (GTy.int IntKind.u32)))))
                (List.getD x.1.2.2.1 (Int.toNat x.1.2.2.2.2.1) ((0 : Int), ((0 : Int), (0 : Int), (0 : Int), (0 : Int)), (0 : Int), List.replicate (16 : Nat) (0 : Int)))
                (List.getD x.1.1 (Int.toNat x.1.2.2.2.2.1) ((0 : Int), ((0 : Int), (0 : Int), (0 : Int), (0 : Int)), (0 : Int), List.replicate (16 : Nat) (0 : Int))))
            (Tree.leaf (Ex.ret, some ((x.1.1, false, x.1.2.2.1, x.1.2.2.2.1, x.1.2.2.2.2.1, ()), ())))
            (Tree.leaf (Ex.normal, some ((x.1.1, x.1.2.1, x.1.2.2.1, x.1.2.2.2.1, IntKind.wrap IntKind.i64 (x.1.2.2.2.2.1 + (1 : Int)), ()), ()))))))
      (Tree.leaf (Ex.exit (2 : Nat), some ((x.1.1, x.1.2.1, x.1.2.2.1, x.1.2.2.2.1, x.1.2.2.2.2.1, ()), ())))) := by kernel_rfl
theorem call35_tree : (fun x : List DConf × List UInt8 => evFn (mkC tys call35G call35L) (fnOf Tryd.prog 16) (resL callC35.args x) callC35.res) =
  (fun x =>
    Tree.br (bif decide ((↑(List.length x.1) : Int) > (20 : Int)) then true else decide ((↑(List.length x.2) : Int) > (8100 : Int))) (Tree.leaf true)
      (Tree.need
        (((bif bif bif bif !(paF x.1).1 == (paF x.1).1 then true else (paF x.1).2 != (paF x.1).2 then true else (pgF x.2).2.1 != (pgF x.2).2.1 then true else (pgF x.2).2.2 != (pgF x.2).2.2 then true
                else (↑(List.length (pgF x.2).1) : Int) != (↑(List.length (pgF x.2).1) : Int)) ==
                false &&
              true) =
            true →
          List.length x.1 ≤ (20 : Nat))
        (Tree.need
          (((bif bif bif bif !(paF x.1).1 == (paF x.1).1 then true else (paF x.1).2 != (paF x.1).2 then true else (pgF x.2).2.1 != (pgF x.2).2.1 then true else (pgF x.2).2.2 != (pgF x.2).2.2 then true
                  else (↑(List.length (pgF x.2).1) : Int) != (↑(List.length (pgF x.2).1) : Int)) ==
                  false &&
                true) =
              true →
            List.length x.1 ≤ (20 : Nat))
          (Tree.br
            (bif
                bif bif bif bif !(paF x.1).1 == (paF x.1).1 then true else (paF x.1).2 != (paF x.1).2 then true else (pgF x.2).2.1 != (pgF x.2).2.1 then true else (pgF x.2).2.2 != (pgF x.2).2.2 then
                  true
                else (↑(List.length (pgF x.2).1) : Int) != (↑(List.length (pgF x.2).1) : Int) then
              true
            else linksF x.1 != allP x.1 x.1)
            (Tree.leaf false)
            (Tree.need (caPre ((false, (pgF x.2).1, (pgF x.2).1, (↑(List.length (pgF x.2).1) : Int), (0 : Int), PUnit.unit), PUnit.unit))
              (Tree.br ((paF x.1).2 == (0 : Int))
                (Tree.br
                  (bif bif (pgF (paF x.1).1).2.2 != (0 : Int) then true else (pgF (paF x.1).1).2.1 != (0 : Int) then true else (↑(List.length (pgF (paF x.1).1).1) : Int) != (↑(List.length x.1) : Int))
                  (Tree.leaf false)
                  (Tree.need (cbPre ((x.1, false, (pgF (paF x.1).1).1, (↑(List.length (pgF (paF x.1).1).1) : Int), (0 : Int), PUnit.unit), PUnit.unit))
                    (Tree.br ((pgF x.2).2.2 != (0 : Int)) (Tree.leaf (bif (↑(List.length (pgF x.2).1) : Int) == (0 : Int) then true else false))
                      (Tree.leaf (bif bif (paF (pgF x.2).1).2 == (0 : Int) then (paF (pgF x.2).1).1 == x.2 else false then true else false)))))
                (Tree.br ((pgF x.2).2.2 != (0 : Int)) (Tree.leaf (bif (↑(List.length (pgF x.2).1) : Int) == (0 : Int) then true else false))
                  (Tree.leaf (bif bif (paF (pgF x.2).1).2 == (0 : Int) then (paF (pgF x.2).1).1 == x.2 else false then true else false))))))))) := by kernel_rfl
theorem ca_loop : LoopOK (mkC tys call35G call35L) caD.spec (loopB 0 (bodyOf (fnOf Tryd.prog 16))) :=
  loopD_ok1 (fun _ => rfl) (fun x => congrFun ca_round x) (fun (x : CaS) => (x.1.2.2.2.1 - x.1.2.2.2.2.1).toNat) fun (x : CaS) hp => by
    obtain ⟨⟨r, a, b, len, i, ⟨⟩⟩, ⟨⟩⟩ := x
    obtain ⟨h1, h2, h3, h4, h5⟩ := hp
    simp only at h1 h2 h3 h4 h5
    subst h1
    have hz : ((0 : Int), ((0 : Int), (0 : Int), (0 : Int), (0 : Int)), (0 : Int), List.replicate (16 : Nat) (0 : Int)) = zeroConf := rfl
    have hg : ∀ c : DConf, geq (GTy.prod (GTy.int IntKind.i64) (GTy.prod (GTy.prod (GTy.int IntKind.i64) (GTy.prod (GTy.int IntKind.i64) (GTy.prod (GTy.int IntKind.i64) (GTy.int IntKind.i64)))) (GTy.prod (GTy.int IntKind.i64) (GTy.arr (16 : Nat) (GTy.int IntKind.u32))))) c c = true := fun c => geq_self gConf c rfl
    simp only [Tree.holds, hz, hg]
    refine ⟨fun h => ?_, fun h => ?_⟩
    · have h' : i < len := of_decide_eq_true h
      refine ⟨⟨h2, by omega⟩, ⟨h2, by omega⟩, fun g => (by cases g), fun _ => ?_⟩
      rw [i64_id (n := i + 1) (by omega) (by omega)]
      exact ⟨_, rfl, ⟨rfl, by show 0 ≤ i + 1; omega, by show i + 1 ≤ len; omega, h4, h5⟩, by show (len - (i + 1)).toNat < (len - i).toNat; omega, rfl⟩
    · have h' : ¬ i < len := of_decide_eq_false h
      have hi : i = len := by omega
      subst hi
      exact ⟨_, rfl, rfl⟩
theorem cb_loop : LoopOK (mkC tys call35G call35L) cbD.spec (loopB 2 (bodyOf (fnOf Tryd.prog 16))) :=
  loopD_ok1 (fun _ => rfl) (fun x => congrFun cb_round x) (fun (x : CbS) => (x.1.2.2.2.1 - x.1.2.2.2.2.1).toNat) fun (x : CbS) hp => by
    obtain ⟨⟨a, r, b, len, i, ⟨⟩⟩, ⟨⟩⟩ := x
    obtain ⟨h1, h2, h3, h4, h5⟩ := hp
    simp only at h1 h2 h3 h4 h5
    subst h1
    have hz : ((0 : Int), ((0 : Int), (0 : Int), (0 : Int), (0 : Int)), (0 : Int), List.replicate (16 : Nat) (0 : Int)) = zeroConf := rfl
    have hg : ∀ c : DConf, geq (GTy.prod (GTy.int IntKind.i64) (GTy.prod (GTy.prod (GTy.int IntKind.i64) (GTy.prod (GTy.int IntKind.i64) (GTy.prod (GTy.int IntKind.i64) (GTy.int IntKind.i64)))) (GTy.prod (GTy.int IntKind.i64) (GTy.arr (16 : Nat) (GTy.int IntKind.u32))))) c c = true := fun c => geq_self gConf c rfl
    simp only [Tree.holds, hz, hg]
    refine ⟨fun h => ?_, fun h => ?_⟩
    · have h' : i < len := of_decide_eq_true h
      refine ⟨⟨h2, by omega⟩, ⟨h2, by omega⟩, fun g => (by cases g), fun _ => ?_⟩
      rw [i64_id (n := i + 1) (by omega) (by omega)]
      exact ⟨_, rfl, ⟨rfl, by show 0 ≤ i + 1; omega, by show i + 1 ≤ len; omega, h4, h5⟩, by show (len - (i + 1)).toNat < (len - i).toNat; omega, rfl⟩
    · have h' : ¬ i < len := of_decide_eq_false h
      have hi : i = len := by omega
      subst hi
      exact ⟨_, rfl, rfl⟩
theorem call35_ok : CtrOK Tryd.prog 16 callC35 :=
  fun_ok (G := call35G) (Λ := call35L) tysOK call35G_ok mixed (by kernel_rfl) (by kernel_rfl) (by kernel_rfl) (by kernel_rfl) (lp_cons ca_loop (lp_cons cb_loop lp_nil)) fun (x : List DConf × List UInt8) hw _ => by
    rw [congrFun call35_tree x]
    have hl : ∀ c ∈ x.1, c.2.2.2.length = 16 := fun c hc => (hw.1.2.2 c hc).2.2.2.1
    have hlen := pg_len x.2
    have hg : ((pgF x.2).2.2 != (0 : Int)) = false → (bif bif (paF (pgF x.2).1).2 == (0 : Int) then (paF (pgF x.2).1).1 == x.2 else false then true else false) = true := fun h => by
      obtain ⟨a, b⟩ := pg_good h
      rw [a, b]
      simp
    have hb : ((pgF x.2).2.2 != (0 : Int)) = true → (bif ((pgF x.2).1.length : Int) == (0 : Int) then true else false) = true := fun h => by
      rw [pg_bad h]
      rfl
    simp only [Tree.holds]
    refine ⟨fun _ => rfl, fun h0 => ?_⟩
    have hx : x.1.length ≤ 20 := by
      by_cases hx : (x.1.length : Int) > 20
      · rw [decide_eq_true hx] at h0; cases h0
      · omega
    have hs : ∀ s : List UInt8, (s == s) = true := fun s => beq_self_eq_true s
    have hi : ∀ n : Int, (n != n) = false := fun n => by simp
    rw [links_same]
    simp only [hs, hi]
    refine ⟨fun _ => hx, fun _ => hx, fun h => (by cases h), fun _ => ⟨⟨rfl, Int.le_refl _, by show (0 : Int) ≤ ((pgF x.2).1.length : Int); omega, rfl, by show ((pgF x.2).1.length : Int) ≤ 10000; omega⟩, fun h => ?_, fun _ => ⟨fun h3 => hb h3, fun h3 => hg h3⟩⟩⟩
    obtain ⟨k1, k2, k3⟩ := pg_at (pg_back hl h)
    rw [k1, k2, k3]
    simp only [hi]
    have h8 := pa_len (eq_of_beq h)
    exact ⟨fun h => (by cases h), fun _ => ⟨⟨rfl, Int.le_refl _, by show (0 : Int) ≤ (x.1.length : Int); omega, rfl, by show (x.1.length : Int) ≤ 10000; omega⟩, fun h3 => hb h3, fun h3 => hg h3⟩⟩
end Go.Ev.D
