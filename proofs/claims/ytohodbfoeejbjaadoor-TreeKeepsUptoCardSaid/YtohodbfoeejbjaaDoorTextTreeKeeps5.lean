/- Sets of nodes, as texts. -/
import Derived.Lib.ItoaNum
import Derived.Lib.ItoaMem
import Derived.Conc.LoneCalls
import Derived.Conc.SmallLaws
import Derived.Test.YtohodbfoeejbjaaDoorTextTreeKeeps4

set_option linter.unusedVariables false
set_option linter.unusedSimpArgs false
namespace Go.Ev.D
open Go.Proofs
def rightC : Ctr := { args := [.int .i64], res := [.bool], pre := none, fn := fun (x : Int) => rightF x }
def rightG : List (Nat × Ctr) := []
theorem right_tree : (fun x : Int => evFn (mkC tys rightG []) (fnOf Tryd.prog 72) (resL rightC.args x) rightC.res) =
  (fun x => Tree.leaf (bif decide (x ≥ (0 : Int)) then decide (x < (16 : Int)) else false)) := by kernel_rfl
theorem right_ok : CtrOK Tryd.prog 72 rightC :=
  fun_ok (G := rightG) (Λ := []) tysOK ctrs_nil mixed (by kernel_rfl) (by kernel_rfl) (by kernel_rfl) (by kernel_rfl) lp_nil fun (x : Int) hw _ => by
    rw [congrFun right_tree x]
    exact holds_val (d := rightC.fn x) (by kernel_rfl) (by simp [Tree.safe])
def hasC : Ctr := { args := [.int .i64, .int .i64], res := [.bool], pre := none, fn := fun (x : Int × Int) => hasF x.1 x.2 }
def hasG : List (Nat × Ctr) := [(72, rightC)]
theorem has_tree : (fun x : Int × Int => evFn (mkC tys hasG []) (fnOf Tryd.prog 41) (resL hasC.args x) hasC.res) =
  (fun x =>
    Tree.need ((rightF x.2 == true && true) = true → (0 : Int) ≤ x.2)
      (Tree.leaf (bif rightF x.2 then bitsOp BinOp.and IntKind.i64 (Int.fdiv x.1 ((2 : Int) ^ min (Int.toNat x.2) (64 : Nat))) (1 : Int) == (1 : Int) else false))) := by kernel_rfl
theorem has_ok : CtrOK Tryd.prog 41 hasC :=
  fun_ok (G := hasG) (Λ := []) tysOK (ctrs_cons right_ok ctrs_nil) mixed (by kernel_rfl) (by kernel_rfl) (by kernel_rfl) (by kernel_rfl) lp_nil fun (x : Int × Int) hw _ => by
    rw [congrFun has_tree x]
    exact holds_val (d := hasC.fn x) (by kernel_rfl) (by simp [Tree.safe]; intro h; exact (rightF_iff.1 h).1)
def withC : Ctr := { args := [.int .i64, .int .i64], res := [.int .i64], pre := none, fn := fun (x : Int × Int) => withF x.1 x.2 }
def withG : List (Nat × Ctr) := [(72, rightC)]
theorem with_tree : (fun x : Int × Int => evFn (mkC tys withG []) (fnOf Tryd.prog 100) (resL withC.args x) withC.res) =
  (fun x =>
    Tree.br (!rightF x.2) (Tree.leaf x.1) (Tree.need ((0 : Int) ≤ x.2) (Tree.leaf (bitsOp BinOp.or IntKind.i64 x.1 (IntKind.wrap IntKind.i64 ((1 : Int) * (2 : Int) ^ min (Int.toNat x.2) (64 : Nat))))))) := by kernel_rfl
theorem with_ok : CtrOK Tryd.prog 100 withC :=
  fun_ok (G := withG) (Λ := []) tysOK (ctrs_cons right_ok ctrs_nil) mixed (by kernel_rfl) (by kernel_rfl) (by kernel_rfl) (by kernel_rfl) lp_nil fun (x : Int × Int) hw _ => by
    rw [congrFun with_tree x]
    exact holds_val (d := withC.fn x) (by kernel_rfl) (by simp [Tree.safe]; intro h; exact (rightF_iff.1 h).1)
def rrightC : Ctr := { args := [.int .i64], res := [.bool], pre := none, fn := fun (x : Int) => rightF x }
def rrightG : List (Nat × Ctr) := []
theorem rright_tree : (fun x : Int => evFn (mkC tys rrightG []) (fnOf Tryd.prog 99) (resL rrightC.args x) rrightC.res) =
  (fun x => Tree.leaf (bif decide (x ≥ (0 : Int)) then decide (x < (16 : Int)) else false)) := by kernel_rfl
theorem rright_ok : CtrOK Tryd.prog 99 rrightC :=
  fun_ok (G := rrightG) (Λ := []) tysOK ctrs_nil mixed (by kernel_rfl) (by kernel_rfl) (by kernel_rfl) (by kernel_rfl) lp_nil fun (x : Int) hw _ => by
    rw [congrFun rright_tree x]
    exact holds_val (d := rrightC.fn x) (by kernel_rfl) (by simp [Tree.safe])
def rhasC : Ctr := { args := [.int .i64, .int .i64], res := [.bool], pre := none, fn := fun (x : Int × Int) => hasF x.1 x.2 }
theorem rhas_tree : (fun x : Int × Int => evFn (mkC tys [(99, rrightC)] []) (fnOf Tryd.prog 111) (resL rhasC.args x) rhasC.res) =
  (fun x =>
    Tree.need ((rightF x.2 == true && true) = true → (0 : Int) ≤ IntKind.wrap IntKind.u64 x.2)
      (Tree.leaf (bif rightF x.2 then bitsOp BinOp.and IntKind.i64 (Int.fdiv x.1 ((2 : Int) ^ min (Int.toNat (IntKind.wrap IntKind.u64 x.2)) (64 : Nat))) (1 : Int) == (1 : Int) else false))) := by kernel_rfl
theorem rhas_ok : CtrOK Tryd.prog 111 rhasC :=
  fun_ok (G := [(99, rrightC)]) (Λ := []) tysOK (ctrs_cons rright_ok ctrs_nil) mixed (by kernel_rfl) (by kernel_rfl) (by kernel_rfl) (by kernel_rfl) lp_nil fun (x : Int × Int) hw _ => by
    rw [congrFun rhas_tree x]
    cases h : rightF x.2 with
    | false => simp [Tree.holds, rhasC, hasF, h]
    | true =>
      have h2 := rightF_iff.1 h
      have e : IntKind.u64.wrap x.2 = x.2 := u64_id h2.1 (by omega)
      simp only [Tree.holds, rhasC, hasF, h, e, bitF]
      exact ⟨fun _ => h2.1, trivial⟩
def listD : LoopD where
  prom := [(3, 1003, 3, .int .i64)]
  ts := [(0, .val (.int .i64)), (3, .tip 1003), (5, .val (.int .i64))]
  bs := [(1003, .row 3 (.int .i64) false)]
  pre := fun (x : (Int × Int × Unit) × List Int × Unit) => 0 ≤ x.1.2.1 ∧ x.1.2.1 ≤ 16 ∧ (x.2.1.length : Int) ≤ x.1.2.1
  out := fun (x : (Int × Int × Unit) × List Int × Unit) => .leaf (.exit 0, ((x.1.1, 16, ()), x.2.1 ++ elemsF x.1.1 (16 - x.1.2.1).toNat, ()))
def listG : List (Nat × Ctr) := [(41, hasC)]
theorem listG_ok : CtrsOK Tryd.prog (fun f => lk f listG) := (ctrs_cons has_ok ctrs_nil)
def listC : Ctr := { args := [.int .i64], res := [.sl (.int .i64)], pre := none, fn := fun (x : Int) => elemsF x 16 }
theorem list_round : (fun x : (Int × Int × Unit) × List Int × Unit => roundOf (mkC tys listG [(0, listD.spec)]) listD (loopB 0 (bodyOf (fnOf Tryd.prog 102))) x) =
  (fun x =>
    Tree.br (decide (x.1.2.1 < (16 : Int)))
      (Tree.need (hasF x.1.1 x.1.2.1 = true → (List.length x.2.1 + (1 : Nat)) * (8 : Nat) ≤ (140737488355328 : Nat))
        (Tree.leaf (Ex.normal, some ((x.1.1, IntKind.wrap IntKind.i64 (x.1.2.1 + (1 : Int)), ()), bif hasF x.1.1 x.1.2.1 then x.2.1 ++ [x.1.2.1] else x.2.1, ()))))
      (Tree.leaf (Ex.exit (0 : Nat), some ((x.1.1, x.1.2.1, ()), x.2.1, ())))) := by kernel_rfl
theorem list_loop : LoopOK (mkC tys listG [(0, listD.spec)]) listD.spec (loopB 0 (bodyOf (fnOf Tryd.prog 102))) :=
  loopD_ok1 (fun _ => rfl) (fun x => congrFun list_round x) (fun (x : (Int × Int × Unit) × List Int × Unit) => (16 - x.1.2.1).toNat) fun (x : (Int × Int × Unit) × List Int × Unit) hp => by
    obtain ⟨⟨s, i, ⟨⟩⟩, out, ⟨⟩⟩ := x
    exact list_step hp
theorem list_tree : (fun x : Int => evFn (mkC tys listG [(0, listD.spec)]) (fnOf Tryd.prog 102) (resL listC.args x) listC.res) =
  (fun x => Tree.need ((0 : Int) ≤ (0 : Int) ∧ (0 : Int) ≤ (16 : Int) ∧ (↑(0 : Nat) : Int) ≤ (0 : Int)) (Tree.leaf ([] ++ elemsF x (Int.toNat ((16 : Int) - (0 : Int)))))) := by kernel_rfl
theorem list_ok : CtrOK Tryd.prog 102 listC :=
  fun_ok (G := listG) (Λ := [(0, listD.spec)]) tysOK listG_ok mixed (by kernel_rfl) (by kernel_rfl) (by kernel_rfl) (by kernel_rfl) (lp_cons list_loop lp_nil) fun (x : Int) hw _ => by
    rw [congrFun list_tree x]
    exact ⟨⟨by omega, by omega, by omega⟩, rfl⟩
def rlistG : List (Nat × Ctr) := [(111, rhasC)]
theorem rlistG_ok : CtrsOK Tryd.prog (fun f => lk f rlistG) := (ctrs_cons rhas_ok ctrs_nil)
def rlistC : Ctr := { args := [.int .i64], res := [.sl (.int .i64)], pre := none, fn := fun (x : Int) => elemsF x 16 }
theorem rlist_round : (fun x : (Int × Int × Unit) × List Int × Unit => roundOf (mkC tys rlistG [(0, listD.spec)]) listD (loopB 0 (bodyOf (fnOf Tryd.prog 105))) x) =
  (fun x =>
    Tree.br (decide (x.1.2.1 < (16 : Int)))
      (Tree.need (hasF x.1.1 x.1.2.1 = true → (List.length x.2.1 + (1 : Nat)) * (8 : Nat) ≤ (140737488355328 : Nat))
        (Tree.leaf (Ex.normal, some ((x.1.1, IntKind.wrap IntKind.i64 (x.1.2.1 + (1 : Int)), ()), bif hasF x.1.1 x.1.2.1 then x.2.1 ++ [x.1.2.1] else x.2.1, ()))))
      (Tree.leaf (Ex.exit (0 : Nat), some ((x.1.1, x.1.2.1, ()), x.2.1, ())))) := by kernel_rfl
theorem rlist_loop : LoopOK (mkC tys rlistG [(0, listD.spec)]) listD.spec (loopB 0 (bodyOf (fnOf Tryd.prog 105))) :=
  loopD_ok1 (fun _ => rfl) (fun x => congrFun rlist_round x) (fun (x : (Int × Int × Unit) × List Int × Unit) => (16 - x.1.2.1).toNat) fun (x : (Int × Int × Unit) × List Int × Unit) hp => by
    obtain ⟨⟨s, i, ⟨⟩⟩, out, ⟨⟩⟩ := x
    exact list_step hp
theorem rlist_tree : (fun x : Int => evFn (mkC tys rlistG [(0, listD.spec)]) (fnOf Tryd.prog 105) (resL rlistC.args x) rlistC.res) =
  (fun x => Tree.need ((0 : Int) ≤ (0 : Int) ∧ (0 : Int) ≤ (16 : Int) ∧ (↑(0 : Nat) : Int) ≤ (0 : Int)) (Tree.leaf ([] ++ elemsF x (Int.toNat ((16 : Int) - (0 : Int)))))) := by kernel_rfl
theorem rlist_ok : CtrOK Tryd.prog 105 rlistC :=
  fun_ok (G := rlistG) (Λ := [(0, listD.spec)]) tysOK rlistG_ok mixed (by kernel_rfl) (by kernel_rfl) (by kernel_rfl) (by kernel_rfl) (lp_cons rlist_loop lp_nil) fun (x : Int) hw _ => by
    rw [congrFun rlist_tree x]
    exact ⟨⟨by omega, by omega, by omega⟩, rfl⟩
def ntextG : List (Nat × Ctr) := [(102, listC)]
theorem ntextG_ok : CtrsOK Tryd.prog (fun f => lk f ntextG) := (ctrs_cons list_ok ctrs_nil)
def ntextD : LoopD where
  prom := []
  ts := [(3, .tip 9), (11, .val (.sl (.int .i64))), (12, .val (.int .i64)), (13, .val (.int .i64))]
  bs := [(9, .row 5 (.int .u8) false)]
  pre := fun (x : (List Int × Int × Int × Unit) × (List Int × Unit)) => 0 ≤ x.1.2.2.1 ∧ x.1.2.2.1 ≤ x.1.2.1 ∧ x.1.2.1 = x.1.1.length ∧ x.1.2.1 ≤ 16 ∧ (x.2.1.length : Int) = x.1.2.2.1 ∧ ∀ j ∈ x.1.1, 0 ≤ j ∧ j < 16
  out := fun (x : (List Int × Int × Int × Unit) × (List Int × Unit)) => .leaf (.exit 0, ((x.1.1, x.1.2.1, x.1.2.1, ()), (x.2.1 ++ (x.1.1.drop x.1.2.2.1.toNat).map fun n => 97 + n, ())))
theorem ntext_round : (fun x : (List Int × Int × Int × Unit) × (List Int × Unit) => roundOf (mkC tys ntextG [(0, ntextD.spec)]) ntextD (loopB 0 (bodyOf (fnOf Tryd.prog 104))) x) =
  (fun x =>
    Tree.br (decide (x.1.2.2.1 < x.1.2.1))
      (Tree.need ((0 : Int) ≤ x.1.2.2.1 ∧ x.1.2.2.1 < (↑(List.length x.1.1) : Int))
        (Tree.need ((List.length x.2.1 + (1 : Nat)) * (1 : Nat) ≤ (140737488355328 : Nat))
          (Tree.leaf
            (Ex.normal,
              some
                ((x.1.1, x.1.2.1, IntKind.wrap IntKind.i64 (x.1.2.2.1 + (1 : Int)), ()),
                  x.2.1 ++ [IntKind.wrap IntKind.u8 (IntKind.wrap IntKind.i64 ((97 : Int) + List.getD x.1.1 (Int.toNat x.1.2.2.1) (0 : Int)))], ())))))
      (Tree.leaf (Ex.exit (0 : Nat), some ((x.1.1, x.1.2.1, x.1.2.2.1, ()), x.2.1, ())))) := by kernel_rfl
theorem ntext_loop : LoopOK (mkC tys ntextG [(0, ntextD.spec)]) ntextD.spec (loopB 0 (bodyOf (fnOf Tryd.prog 104))) :=
  loopD_ok1 (fun _ => rfl) (fun x => congrFun ntext_round x) (fun (x : (List Int × Int × Int × Unit) × (List Int × Unit)) => (x.1.2.1 - x.1.2.2.1).toNat) fun (x : (List Int × Int × Int × Unit) × (List Int × Unit)) hp => by
    obtain ⟨⟨l, n, i, ⟨⟩⟩, o, ⟨⟩⟩ := x
    obtain ⟨h1, h2, h3, h4, h5, h6⟩ := hp
    simp only at h1 h2 h3 h4 h5 h6
    simp only [Tree.holds]
    refine ⟨fun h => ?_, fun h => ?_⟩
    · have h' : i < n := by simpa using h
      have e : IntKind.i64.wrap (i + 1) = i + 1 := i64_id (by omega) (by omega)
      have hm := h6 _ (getD_mem (l := l) h1 (by omega))
      have hd := drop_int (l := l) h1 (by omega)
      generalize l.getD i.toNat 0 = v at hm hd ⊢
      have e2 : IntKind.wrap IntKind.u8 (IntKind.wrap IntKind.i64 ((97 : Int) + v)) = 97 + v := by
        rw [show IntKind.wrap IntKind.i64 ((97 : Int) + v) = 97 + v from i64_id (by omega) (by omega)]
        exact u8_id (by omega) (by omega)
      rw [e2]
      refine ⟨⟨h1, by omega⟩, by omega, _, rfl, ⟨?_, ?_, h3, h4, ?_, h6⟩, ?_, ?_⟩
      · show 0 ≤ IntKind.i64.wrap (i + 1); omega
      · show IntKind.i64.wrap (i + 1) ≤ n; omega
      · show (((o ++ [97 + v]).length : Nat) : Int) = IntKind.i64.wrap (i + 1)
        rw [List.length_append]; simp; omega
      · show (n - IntKind.i64.wrap (i + 1)).toNat < (n - i).toNat; omega
      · show (Ex.exit 0, ((l, n, n, ()), ((o ++ [97 + v]) ++ (l.drop (IntKind.i64.wrap (i + 1)).toNat).map (fun n => 97 + n), ()))) = (Ex.exit 0, ((l, n, n, ()), (o ++ (l.drop i.toNat).map (fun n => 97 + n), ())))
        rw [e, hd, List.append_assoc]
        rfl
    · have h' : ¬ i < n := by simpa using h
      have hi : i = n := by omega
      subst hi
      refine ⟨_, rfl, ?_⟩
      show (Ex.exit 0, ((l, i, i, ()), (o ++ (l.drop i.toNat).map (fun n => 97 + n), ()))) = _
      rw [List.drop_eq_nil_of_le (by omega), List.map_nil, List.append_nil]
      rfl
def ntextC : Ctr := { args := [.int .i64], res := [.str], pre := none, fn := fun (x : Int) => textN x }
theorem ntext_tree : (fun x : Int => evFn (mkC tys ntextG [(0, ntextD.spec)]) (fnOf Tryd.prog 104) (resL ntextC.args x) ntextC.res) =
  (fun x =>
    Tree.br (bitsOp BinOp.and IntKind.i64 x (65535 : Int) == (0 : Int)) (Tree.leaf [(46 : UInt8)])
      (Tree.need ((0 : Int) ≤ (0 : Int) ∧ (0 : Int) ≤ (16 : Int) ∧ (16 : Int) ≤ (140737488355328 : Int))
        (Tree.need
          ((0 : Int) ≤ (0 : Int) ∧
            (0 : Int) ≤ (↑(List.length (elemsF x (16 : Nat))) : Int) ∧
              (↑(List.length (elemsF x (16 : Nat))) : Int) = (↑(List.length (elemsF x (16 : Nat))) : Int) ∧
                (↑(List.length (elemsF x (16 : Nat))) : Int) ≤ (16 : Int) ∧ (↑(0 : Nat) : Int) = (0 : Int) ∧ ∀ (j : Int), j ∈ elemsF x (16 : Nat) → (0 : Int) ≤ j ∧ j < (16 : Int))
          (Tree.leaf (bytesToStr (List.replicate (0 : Nat) (0 : Int) ++ List.map (fun n => (97 : Int) + n) (List.drop (Int.toNat (0 : Int)) (elemsF x (16 : Nat))))))))) := by kernel_rfl
theorem ntext_ok : CtrOK Tryd.prog 104 ntextC :=
  fun_ok (G := ntextG) (Λ := [(0, ntextD.spec)]) tysOK ntextG_ok mixed (by kernel_rfl) (by kernel_rfl) (by kernel_rfl) (by kernel_rfl) (lp_cons ntext_loop lp_nil) fun (x : Int) hw _ => by
    rw [congrFun ntext_tree x]
    have e : ntextC.fn x = textN x := rfl
    have hl := elems_len x 16
    rw [e]
    simp only [Tree.holds, textN]
    refine ⟨fun h => by rw [h]; rfl, fun h => ⟨⟨by omega, by omega, by omega⟩, ⟨by omega, by omega, trivial, by omega, by omega, fun j hj => ⟨(elem_in (Nat.le_refl 16) hj).1, (elem_in (Nat.le_refl 16) hj).2.1⟩⟩, ?_⟩⟩
    rw [h]
    show bytesToStr ((elemsF x 16).map fun n => 97 + n) = (elemsF x 16).map letF
    unfold bytesToStr
    rw [List.map_map]
    rfl
def letterC : Ctr := { args := [.int .i64], res := [.str], pre := some (fun (x : Int) => 0 ≤ x ∧ x < 16), fn := fun (x : Int) => [letF x] }
theorem letter_tree : (fun x : Int => evFn (mkC tys [] []) (fnOf Tryd.prog 141) (resL letterC.args x) letterC.res) =
  (fun x => Tree.leaf (bytesToStr [IntKind.wrap IntKind.u8 (IntKind.wrap IntKind.i64 ((97 : Int) + x))])) := by kernel_rfl
theorem letter_ok : CtrOK Tryd.prog 141 letterC :=
  fun_ok (G := []) (Λ := []) tysOK ctrs_nil mixed (by kernel_rfl) (by kernel_rfl) (by kernel_rfl) (by kernel_rfl) lp_nil fun (x : Int) hw hp => by
    have hp' : 0 ≤ (x : Int) ∧ (x : Int) < 16 := hp (fun (x : Int) => 0 ≤ x ∧ x < 16) rfl
    have h0 := hp'.1
    have h1 := hp'.2
    rw [congrFun letter_tree x]
    simp only [Tree.holds]
    rw [let_byte h0 h1]
    rfl
def rwithC : Ctr := { args := [.int .i64, .int .i64], res := [.int .i64], pre := none, fn := fun (x : Int × Int) => withF x.1 x.2 }
def rwithG : List (Nat × Ctr) := [(99, rrightC)]
theorem rwith_tree : (fun x : Int × Int => evFn (mkC tys rwithG []) (fnOf Tryd.prog 101) (resL rwithC.args x) rwithC.res) =
  (fun x =>
    Tree.br (rightF x.2)
      (Tree.need ((0 : Int) ≤ IntKind.wrap IntKind.u64 x.2)
        (Tree.leaf (bitsOp BinOp.or IntKind.i64 x.1 (IntKind.wrap IntKind.i64 ((1 : Int) * (2 : Int) ^ min (Int.toNat (IntKind.wrap IntKind.u64 x.2)) (64 : Nat))))))
      (Tree.leaf x.1)) := by kernel_rfl
theorem rwith_ok : CtrOK Tryd.prog 101 rwithC :=
  fun_ok (G := rwithG) (Λ := []) tysOK (ctrs_cons rright_ok ctrs_nil) mixed (by kernel_rfl) (by kernel_rfl) (by kernel_rfl) (by kernel_rfl) lp_nil fun (x : Int × Int) hw _ => by
    rw [congrFun rwith_tree x]
    have e : rwithC.fn x = withF x.1 x.2 := rfl
    rw [e]
    simp only [Tree.holds, withF]
    refine ⟨fun h => ?_, fun h => by rw [h]; rfl⟩
    have h2 := rightF_iff.1 h
    have e : IntKind.u64.wrap x.2 = x.2 := u64_id h2.1 (by omega)
    rw [e, h]
    exact ⟨h2.1, rfl⟩
def rtextG : List (Nat × Ctr) := [(105, rlistC), (141, letterC)]
theorem rtextG_ok : CtrsOK Tryd.prog (fun f => lk f rtextG) := (ctrs_cons rlist_ok (ctrs_cons letter_ok ctrs_nil))
def rtextD : LoopD where
  prom := []
  ts := [(3, .val .str), (7, .val (.sl (.int .i64))), (8, .val (.int .i64)), (9, .val (.int .i64))]
  bs := []
  pre := fun (x : (List UInt8 × List Int × Int × Int × Unit) × Unit) => 0 ≤ x.1.2.2.2.1 ∧ x.1.2.2.2.1 ≤ x.1.2.2.1 ∧ x.1.2.2.1 = x.1.2.1.length ∧ x.1.2.2.1 ≤ 16 ∧ (x.1.1.length : Int) = x.1.2.2.2.1 ∧ ∀ j ∈ x.1.2.1, 0 ≤ j ∧ j < 16
  out := fun (x : (List UInt8 × List Int × Int × Int × Unit) × Unit) => .leaf (.exit 0, ((x.1.1 ++ (x.1.2.1.drop x.1.2.2.2.1.toNat).map letF, x.1.2.1, x.1.2.2.1, x.1.2.2.1, ()), ()))
theorem rtext_round : (fun x : (List UInt8 × List Int × Int × Int × Unit) × Unit => roundOf (mkC tys rtextG [(0, rtextD.spec)]) rtextD (loopB 0 (bodyOf (fnOf Tryd.prog 106))) x) =
  (fun x =>
    Tree.br (decide (x.1.2.2.2.1 < x.1.2.2.1))
      (Tree.need ((0 : Int) ≤ x.1.2.2.2.1 ∧ x.1.2.2.2.1 < (↑(List.length x.1.2.1) : Int))
        (Tree.need ((0 : Int) ≤ List.getD x.1.2.1 (Int.toNat x.1.2.2.2.1) (0 : Int) ∧ List.getD x.1.2.1 (Int.toNat x.1.2.2.2.1) (0 : Int) < (16 : Int))
          (Tree.need (List.length x.1.1 + (1 : Nat) ≤ (4611686018427387904 : Nat))
            (Tree.leaf (Ex.normal, some ((x.1.1 ++ [letF (List.getD x.1.2.1 (Int.toNat x.1.2.2.2.1) (0 : Int))], x.1.2.1, x.1.2.2.1, IntKind.wrap IntKind.i64 (x.1.2.2.2.1 + (1 : Int)), ()), ()))))))
      (Tree.leaf (Ex.exit (0 : Nat), some ((x.1.1, x.1.2.1, x.1.2.2.1, x.1.2.2.2.1, ()), ())))) := by kernel_rfl
theorem rtext_loop : LoopOK (mkC tys rtextG [(0, rtextD.spec)]) rtextD.spec (loopB 0 (bodyOf (fnOf Tryd.prog 106))) :=
  loopD_ok1 (fun _ => rfl) (fun x => congrFun rtext_round x) (fun (x : (List UInt8 × List Int × Int × Int × Unit) × Unit) => (x.1.2.2.1 - x.1.2.2.2.1).toNat) fun (x : (List UInt8 × List Int × Int × Int × Unit) × Unit) hp => by
    obtain ⟨⟨o, l, n, i, ⟨⟩⟩, ⟨⟩⟩ := x
    obtain ⟨h1, h2, h3, h4, h5, h6⟩ := hp
    simp only at h1 h2 h3 h4 h5 h6
    simp only [Tree.holds]
    refine ⟨fun h => ?_, fun h => ?_⟩
    · have h' : i < n := by simpa using h
      have e : IntKind.i64.wrap (i + 1) = i + 1 := i64_id (by omega) (by omega)
      have hm := h6 _ (getD_mem (l := l) h1 (by omega))
      have hd := drop_int (l := l) h1 (by omega)
      generalize l.getD i.toNat 0 = v at hm hd ⊢
      refine ⟨⟨h1, by omega⟩, hm, by omega, _, rfl, ⟨?_, ?_, h3, h4, ?_, h6⟩, ?_, ?_⟩
      · show 0 ≤ IntKind.i64.wrap (i + 1); omega
      · show IntKind.i64.wrap (i + 1) ≤ n; omega
      · show (((o ++ [letF v]).length : Nat) : Int) = IntKind.i64.wrap (i + 1)
        rw [List.length_append]; simp; omega
      · show (n - IntKind.i64.wrap (i + 1)).toNat < (n - i).toNat; omega
      · show (Ex.exit 0, (((o ++ [letF v]) ++ (l.drop (IntKind.i64.wrap (i + 1)).toNat).map letF, l, n, n, ()), ())) = (Ex.exit 0, ((o ++ (l.drop i.toNat).map letF, l, n, n, ()), ()))
        rw [e, hd, List.append_assoc]
        rfl
    · have h' : ¬ i < n := by simpa using h
      have hi : i = n := by omega
      subst hi
      refine ⟨_, rfl, ?_⟩
      show (Ex.exit 0, ((o ++ (l.drop i.toNat).map letF, l, i, i, ()), ())) = _
      rw [List.drop_eq_nil_of_le (by omega), List.map_nil, List.append_nil]
      rfl
def rtextC : Ctr := { args := [.int .i64], res := [.str], pre := none, fn := fun (x : Int) => textN x }
theorem rtext_tree : (fun x : Int => evFn (mkC tys rtextG [(0, rtextD.spec)]) (fnOf Tryd.prog 106) (resL rtextC.args x) rtextC.res) =
  (fun x =>
    Tree.need
      ((0 : Int) ≤ (0 : Int) ∧
        (0 : Int) ≤ (↑(List.length (elemsF x (16 : Nat))) : Int) ∧
          (↑(List.length (elemsF x (16 : Nat))) : Int) = (↑(List.length (elemsF x (16 : Nat))) : Int) ∧
            (↑(List.length (elemsF x (16 : Nat))) : Int) ≤ (16 : Int) ∧ (↑(0 : Nat) : Int) = (0 : Int) ∧ ∀ (j : Int), j ∈ elemsF x (16 : Nat) → (0 : Int) ≤ j ∧ j < (16 : Int))
      (Tree.br ([] ++ List.map letF (List.drop (Int.toNat (0 : Int)) (elemsF x (16 : Nat))) == []) (Tree.leaf [(46 : UInt8)])
        (Tree.leaf ([] ++ List.map letF (List.drop (Int.toNat (0 : Int)) (elemsF x (16 : Nat))))))) := by kernel_rfl
theorem rtext_ok : CtrOK Tryd.prog 106 rtextC :=
  fun_ok (G := rtextG) (Λ := [(0, rtextD.spec)]) tysOK rtextG_ok mixed (by kernel_rfl) (by kernel_rfl) (by kernel_rfl) (by kernel_rfl) (lp_cons rtext_loop lp_nil) fun (x : Int) hw _ => by
    rw [congrFun rtext_tree x]
    have e : rtextC.fn x = textN x := rfl
    have hl := elems_len x 16
    have hm := mask_empty x
    rw [e]
    simp only [Tree.holds, textN]
    rw [hm]
    refine ⟨⟨by omega, by omega, trivial, by omega, by omega, fun j hj => ⟨(elem_in (Nat.le_refl 16) hj).1, (elem_in (Nat.le_refl 16) hj).2.1⟩⟩, ?_⟩
    cases elemsF x 16 with
    | nil => exact ⟨fun _ => rfl, fun h => by cases h⟩
    | cons j l => exact ⟨fun h => by simp at h, fun _ => rfl⟩
end Go.Ev.D
/- Decimal numerals, in plain Lean. -/
set_option linter.unusedVariables false
set_option linter.unusedSimpArgs false
namespace Go.Ev
/-- A number's digits, at most so many. -/
def digN : Nat → Nat → List UInt8
  | 0, _ => []
  | f + 1, n => bif Nat.blt n 10 then [UInt8.ofNat (48 + n)] else digN f (n / 10) ++ [UInt8.ofNat (48 + n % 10)]
def natT (n : Nat) : List UInt8 := digN 20 n
def itoaF (n : Int) : List UInt8 := bif decide (n < 0) then 45 :: natT n.natAbs else natT n.toNat
theorem digN_len : ∀ f n, (digN f n).length ≤ f
  | 0, _ => Nat.le_refl _
  | f + 1, n => by
    unfold digN
    cases Nat.blt n 10 with
    | true => simp
    | false => simp only [cond_false, List.length_append, List.length_cons, List.length_nil]; have := digN_len f (n / 10); omega
theorem itoaF_len (n : Int) : (itoaF n).length ≤ 21 := by
  unfold itoaF natT
  have h1 := digN_len 20 n.natAbs
  have h2 := digN_len 20 n.toNat
  cases decide (n < 0) <;> simp <;> omega
/-- More room turns nothing. -/
theorem digN_more : ∀ f n, n < 10 ^ f → 0 < f → digN (f + 1) n = digN f n
  | 0, _, _, h => absurd h (by omega)
  | f + 1, n, h, _ => by
    show (bif Nat.blt n 10 then _ else digN (f + 1) (n / 10) ++ _) = (bif Nat.blt n 10 then _ else digN f (n / 10) ++ _)
    cases hb : Nat.blt n 10 with
    | true => rfl
    | false =>
      have h10 : ¬ n < 10 := by rw [← Nat.blt_eq, hb]; simp
      have hf : 0 < f := by
        rcases Nat.eq_zero_or_pos f with h0 | h0
        · subst h0; omega
        · exact h0
      have hd : n / 10 < 10 ^ f := by rw [Nat.pow_succ] at h; omega
      simp only [cond_false]
      rw [digN_more f (n / 10) hd hf]
theorem decDigits_digN : ∀ f n, n < 10 ^ f → 0 < f → Lib.decDigits n = digN f n
  | 0, _, _, h => absurd h (by omega)
  | f + 1, n, h, _ => by
    rw [Lib.decDigits]
    show _ = (bif Nat.blt n 10 then _ else digN f (n / 10) ++ _)
    by_cases h10 : n < 10
    · have hb : Nat.blt n 10 = true := by rw [Nat.blt_eq]; exact h10
      rw [dif_pos h10, hb]; rfl
    · have hb : Nat.blt n 10 = false := by
        cases hb : Nat.blt n 10 with
        | false => rfl
        | true => exact absurd (by rw [Nat.blt_eq] at hb; exact hb) h10
      have hf : 0 < f := by
        rcases Nat.eq_zero_or_pos f with h0 | h0
        · subst h0; omega
        · exact h0
      have hd : n / 10 < 10 ^ f := by rw [Nat.pow_succ] at h; omega
      rw [dif_neg h10, hb, decDigits_digN f (n / 10) hd hf]
      rfl
theorem itoa_eq {n : Int} (h0 : -9223372036854775808 ≤ n) (h1 : n ≤ 9223372036854775807) : Lib.itoa n = itoaF n := by
  unfold Lib.itoa itoaF natT
  by_cases h : n < 0
  · rw [if_pos h, decDigits_digN 20 n.natAbs (by omega) (by omega)]
    have : decide (n < 0) = true := by simpa using h
    rw [this]; rfl
  · rw [if_neg h]
    have : decide (n < 0) = false := by simpa using h
    rw [this]
    rw [decDigits_digN 20 _ (by omega) (by omega)]
    simp
end Go.Ev
/- A channel with room, used by one goroutine alone: the pieces of code beside it are told by the evaluator. -/
set_option linter.unusedVariables false
set_option linter.unusedSimpArgs false
namespace Go.Ev
open Go.Conc

section
variable {P : Program} {C : Ctx} {b : Frame}

/-- From the code on, in this frame. -/
def CodeTo (P : Program) (b : Frame) (c : Code) (Q : Exit → Act → World → Prop) (a : Act) (w : World) : Prop :=
  ∀ (k : List Item) (cs : List Frame), ∃ e a' w', Q e a' w' ∧ Arrives P (lone (b.at a (.code c :: k)) cs w) b k cs e a' w'
/-- From so many operations of a region on. -/
def RegTo (P : Program) (b : Frame) (ops : Array Oper) (l : List Nat) (Q : Exit → Act → World → Prop) (a : Act) (w : World) : Prop :=
  ∀ (k : List Item) (cs : List Frame), ∃ e a' w', Q e a' w' ∧ Arrives P (lone (b.at a (.inRegion ops l :: k)) cs w) b k cs e a' w'

variable {Q : Exit → Act → World → Prop} {a : Act} {w : World} {ops : Array Oper} {l : List Nat}

theorem CodeTo.of_wp {c : Code} (h : c.wp P Q a w) : CodeTo P b c Q a w := fun k cs => h b k cs
theorem CodeTo.mono {c : Code} {Q' : Exit → Act → World → Prop} (h : CodeTo P b c Q a w) (hq : ∀ e a w, Q e a w → Q' e a w) : CodeTo P b c Q' a w := fun k cs =>
  let ⟨e, a', w', h1, h2⟩ := h k cs; ⟨e, a', w', hq _ _ _ h1, h2⟩
theorem CodeTo.cond {c : Operand} {x y : Code} {t : Bool} (hc : a.eval c = .bool t) (h : CodeTo P b (if t then x else y) Q a w) : CodeTo P b (.cond c x y) Q a w := fun k cs =>
  let ⟨e, a', w', q, r⟩ := h k cs; ⟨e, a', w', q, .of_steps (.one (step_cond hc)) r⟩
theorem CodeTo.region {id : Nat} (h : RegTo P b ops (List.range ops.size) Q a w) : CodeTo P b (.region id ops false) Q a w := fun k cs =>
  let ⟨e, a', w', q, r⟩ := h k cs; ⟨e, a', w', q, .of_steps (.one step_region) r⟩
theorem CodeTo.skip (h : Q .normal a w) : CodeTo P b .skip Q a w := CodeTo.of_wp (wp_skip h)

/-- Codes one behind the other. -/
def LTo (P : Program) (b : Frame) : List Code → (Exit → Act → World → Prop) → Act → World → Prop
  | [], Q, a, w => Q .normal a w
  | c :: l, Q, a, w => CodeTo P b c (Exit.then (LTo P b l Q) Q) a w
def seqs : Code → List Code
  | .seq x y => seqs x ++ seqs y
  | c => [c]

theorem CodeTo.seq {x y : Code} (h : CodeTo P b x (Exit.then (CodeTo P b y Q) Q) a w) : CodeTo P b (.seq x y) Q a w := by
  intro k cs
  obtain ⟨e, a₁, w₁, hq, harr⟩ := h (.code y :: k) cs
  cases e with
  | normal =>
    obtain ⟨e, a₂, w₂, hq', harr'⟩ := hq k cs
    exact ⟨e, a₂, w₂, hq', .of_steps (.one step_seq) (.of_steps harr harr')⟩
  | exit id => exact ⟨_, a₁, w₁, hq, .of_steps (.one step_seq) (.pass (x := .code y) rfl (fun _ _ => .inl (by simp)) harr)⟩
  | goto id => exact ⟨_, a₁, w₁, hq, .of_steps (.one step_seq) (.pass (x := .code y) rfl (fun _ _ => .inl (by simp)) harr)⟩
  | ret => exact ⟨_, a₁, w₁, hq, .of_steps (.one step_seq) (.pass (x := .code y) rfl (fun _ _ => .inl (by simp)) harr)⟩
  | panic c => exact ⟨_, a₁, w₁, hq, .of_steps (.one step_seq) (.pass (x := .code y) rfl (fun _ _ => .inl (by simp)) harr)⟩
  | outgrown => exact ⟨_, a₁, w₁, hq, .of_steps (.one step_seq) (.pass (x := .code y) rfl (fun _ _ => .inl (by simp)) harr)⟩

theorem then_id {c : Code} (h : CodeTo P b c (Exit.then (LTo P b [] Q) Q) a w) : CodeTo P b c Q a w := h.mono fun e a w hq => by cases e <;> exact hq
theorem lto_append : ∀ {l r : List Code} {Q : Exit → Act → World → Prop} {a : Act} {w : World}, LTo P b (l ++ r) Q a w → LTo P b l (Exit.then (LTo P b r Q) Q) a w
  | [], _, _, _, _, h => h
  | c :: l, r, Q, a, w, h => CodeTo.mono (c := c) h fun e a' w' hq => by
      cases e with
      | normal => exact lto_append (l := l) hq
      | _ => exact hq
theorem LTo.mono : ∀ {l : List Code} {Q Q' : Exit → Act → World → Prop} {a : Act} {w : World}, LTo P b l Q a w → (∀ e a w, Q e a w → Q' e a w) → LTo P b l Q' a w
  | [], _, _, _, _, h, hq => hq _ _ _ h
  | c :: l, Q, Q', a, w, h, hq => CodeTo.mono (c := c) h fun e a' w' h' => by
      cases e with
      | normal => exact LTo.mono (l := l) h' hq
      | _ => exact hq _ _ _ h'
theorem CodeTo.seqs : ∀ {c : Code} {Q : Exit → Act → World → Prop} {a : Act} {w : World}, LTo P b (Ev.seqs c) Q a w → CodeTo P b c Q a w
  | .seq x y, Q, a, w, h => CodeTo.seq (CodeTo.mono (CodeTo.seqs (c := x) (lto_append h)) fun e a' w' hq => by
      cases e with
      | normal => exact CodeTo.seqs (c := y) hq
      | _ => exact hq)
  | .skip, _, _, _, h | .region .., _, _, _, h | .cond .., _, _, _, h | .block .., _, _, _, h | .loop _, _, _, _, h | .rangeFunc .., _, _, _, h | .exit _, _, _, _, h | .scope _, _, _, _, h | .label _, _, _, _, h | .goto _, _, _, _, h | .ret, _, _, _, h | .refuse _, _, _, _, h => then_id h

/-- Codes that the evaluator tells. -/
def evL (C : Ctx) : List Code → St → Tree (Ex × St)
  | [], s => .leaf (.normal, s)
  | c :: l, s => (ev C c s).bind fun p => match p.1 with
    | .normal => evL C l p.2
    | e => .leaf (e, p.2)

theorem evL_to (TOK : TysOK P C.τ) (GC : CtrsOK P C.Γ) (hmix : P.follows .mixedOrders = true) {R : Ref} {F : Ex × St → Prop} {rest : List Code} : ∀ (l : List Code) (s : St) (a : Act) (w : World), (∀ c ∈ l, LamOK C c) → (∀ c ∈ l, ∀ t ∈ writes c, t < a.tmps.size) → IsSt R s a w → (evL C l s).holds F →
    (∀ z s' a' w', F (z, s') → IsSt R s' a' w' → a'.tmps.size = a.tmps.size → a'.defers = a.defers → (∀ t, (∀ c ∈ l, t ∉ writes c) → a'.tmps.getD t undef = a.tmps.getD t undef) → match z with
      | .normal => LTo P b rest Q a' w'
      | z => Q z.to a' w') → LTo P b (l ++ rest) Q a w
  | [], s, a, w, _, _, hs, hF, hQ => hQ .normal s a w hF hs rfl rfl (fun _ _ => rfl)
  | c :: l, s, a, w, hl, hsz, hs, hF, hQ => by
    have hF' := holds_bind.1 hF
    have := (ev_ok TOK GC hmix c (hl c (by simp))).1 R s a w _ hs (hsz c (by simp)) hF'
    refine (CodeTo.of_wp this).mono ?_
    rintro e a1 w1 ⟨z, s1, rfl, h1, h2, h3⟩
    cases z with
    | normal =>
      exact evL_to TOK GC hmix l s1 a1 w1 (fun c' hc' => hl c' (by simp [hc'])) (fun c' hc' t ht => by rw [h3.size]; exact hsz c' (by simp [hc']) t ht) h2 h1
        (fun z s' a' w' f1 f2 f3 f4 f5 => hQ z s' a' w' f1 f2 (f3.trans h3.size) (f4.trans h3.defers) (fun t ht => (f5 t (fun c' hc' => ht c' (by simp [hc']))).trans (h3.tmps t (ht c (by simp)))))
    | exit id => exact hQ (.exit id) s1 a1 w1 h1 h2 h3.size h3.defers (fun t ht => h3.tmps t (ht c (by simp)))
    | ret => exact hQ .ret s1 a1 w1 h1 h2 h3.size h3.defers (fun t ht => h3.tmps t (ht c (by simp)))

/-! Regions, operation by operation -/

theorem RegTo.nil (h : Q .normal a w) : RegTo P b ops [] Q a w := fun k cs => ⟨.normal, a, w, h, .one step_region_end⟩
theorem RegTo.value {i : Nat} {o : Oper} {v : Value} {w' : World} (ho : ops[i]? = some o) (hg : o.guard = none) (hr : (execOp a.eval o).run P w = .ok (.value v) w') (h : RegTo P b ops l Q (a.put o.dst v) w') : RegTo P b ops (i :: l) Q a w := by
  intro k cs
  obtain ⟨e, a', w'', hq, harr⟩ := h k cs
  have hw : Region.wanted o (yielded ops a.tmps) = true := by simp [Region.wanted, hg]
  have hgo := stepG_op (P := P) (b := b) (k := k) (cs := cs) (w := w) (rest := l) ho hw
  have hfin : ∀ v, (b.at a (.inRegion ops (i :: l) :: k)).finish v = b.at (a.put o.dst v) (.inRegion ops l :: k) := by
    intro v; rw [Frame.finish_at, ho]; rfl
  refine ⟨e, a', w'', hq, .of_steps (.one (step_lone_go ?_)) harr⟩
  rw [hgo, ← hfin]
  simp [stepG.apply, hr]

theorem RegTo.send {i : Nat} {o : Oper} {x y : Operand} {c cap s r : Nat} {buf : Array Value} {tm : Bool} {v : Value} (ho : ops[i]? = some o) (hg : o.guard = none) (hb : b.kind ≠ .early) (hop : o.op = .send x y) (hx : a.eval x = .chan (some c)) (hy : a.eval y = v)
    (hc : w.heap[c]? = some (.chan cap buf false s r tm)) (hroom : buf.size < cap) (h : RegTo P b ops l Q (a.put o.dst undef) (w.setChan c cap (buf.push v) false (s + 1) r tm)) : RegTo P b ops (i :: l) Q a w := by
  intro k cs
  obtain ⟨e, a', w'', hq, harr⟩ := h k cs
  have hw : Region.wanted o (yielded ops a.tmps) = true := by simp [Region.wanted, hg]
  refine ⟨e, a', w'', hq, .of_steps (.one ?_) harr⟩
  have hst := step_lone_send_room (P := P) (fr := b.at a (.inRegion ops (i :: l) :: k)) (cs := cs) (w := w) (stepG_comm (cases := #[scase c v (.tuple #[])]) (blocking := true) (shape := .send) (w' := w) ho hw hb (by
    unfold execOp
    rw [hop]
    simp only [hx, hy]
    simp [scase])) hc hroom
  rw [lone_eq_solo, hst, Frame.finish_at, ho]
  rfl

theorem step_lone_select_recv {fr : Frame} {cs : List Frame} {w w₁ : World} {es : Array Event} {c cap s r : Nat} {buf : Array Value} {z : Value} {tm : Bool} (h : stepG P true (G fr cs) w = .comm (G fr cs) #[rcase c z] false .select w₁ es) (hc : w₁.heap[c]? = some (.chan cap buf false s r tm)) (hsome : 0 < buf.size) :
    step P (solo (G fr cs) w) = .next (solo (G (fr.finish (.tuple #[goInt 0, .bool true, buf.getD 0 undef])) cs) (w₁.setChan c cap (buf.extract 1 buf.size) false s (r + 1) tm)) := by
  have hp := partners_alone (c := c) true
  rw [step, stepT_solo rfl]
  simp [runT, solo, G, Array.swapAt!, Array.swapAt, h, GStep.es, communicate, ways, rcase, hc, hp, hsome, choose, Sem.run, Question.forced, bind, Sem.bind, pure, Goroutine.finishComm, commResult, World.setChan] at h ⊢

theorem RegTo.select_none {i : Nat} {o : Oper} {c cap s r : Nat} {tm : Bool} {z : Value} (ho : ops[i]? = some o) (hg : o.guard = none) (hb : b.kind ≠ .early) (hex : (execOp a.eval o).run P w = .ok (.comm #[rcase c z] false .select) w)
    (hc : w.heap[c]? = some (.chan cap #[] false s r tm)) (h : RegTo P b ops l Q (a.put o.dst (.tuple #[goInt (-1), .bool false, z])) w) : RegTo P b ops (i :: l) Q a w := by
  intro k cs
  obtain ⟨e, a', w'', hq, harr⟩ := h k cs
  have hw : Region.wanted o (yielded ops a.tmps) = true := by simp [Region.wanted, hg]
  refine ⟨e, a', w'', hq, .of_steps (.one ?_) harr⟩
  have hst := step_lone_select_default (P := P) (fr := b.at a (.inRegion ops (i :: l) :: k)) (cs := cs) (w := w) (stepG_comm (cases := #[rcase c z]) (blocking := false) (shape := .select) (w' := w) ho hw hb hex) hc
  rw [lone_eq_solo, hst, Frame.finish_at, ho]
  rfl
theorem RegTo.select_recv {i : Nat} {o : Oper} {c cap s r : Nat} {tm : Bool} {buf : Array Value} {z : Value} (ho : ops[i]? = some o) (hg : o.guard = none) (hb : b.kind ≠ .early) (hex : (execOp a.eval o).run P w = .ok (.comm #[rcase c z] false .select) w)
    (hc : w.heap[c]? = some (.chan cap buf false s r tm)) (hsome : 0 < buf.size) (h : RegTo P b ops l Q (a.put o.dst (.tuple #[goInt 0, .bool true, buf.getD 0 undef])) (w.setChan c cap (buf.extract 1 buf.size) false s (r + 1) tm)) : RegTo P b ops (i :: l) Q a w := by
  intro k cs
  obtain ⟨e, a', w'', hq, harr⟩ := h k cs
  have hw : Region.wanted o (yielded ops a.tmps) = true := by simp [Region.wanted, hg]
  refine ⟨e, a', w'', hq, .of_steps (.one ?_) harr⟩
  have hst := step_lone_select_recv (P := P) (fr := b.at a (.inRegion ops (i :: l) :: k)) (cs := cs) (w := w) (stepG_comm (cases := #[rcase c z]) (blocking := false) (shape := .select) (w' := w) ho hw hb hex) hc hsome
  rw [lone_eq_solo, hst, Frame.finish_at, ho]
  rfl

/-! The frame of a call -/
theorem calls_of_to {f : FuncId} {fn : Func} {c : Code} {args : Array Value} {R : Ending → World → Prop} (hf : P.funcs[f]? = some fn) (hb : fn.body = some c)
    (h : CodeTo P { (default : Frame) with fn := f, kind := .normal } c (fun e a' w' => (e = .normal ∨ e = .ret) ∧ a'.defers = [] ∧ ∃ v, (results fn a'.tmps).run P w' = .ok v w' ∧ R (.returned v) w') { tmps := args ++ Array.replicate (fn.ntmps - args.size) undef, defers := [] } w) : Calls P f args w R := by
  intro cs
  have henter : Frame.enter P f args .normal = ({ (default : Frame) with fn := f, kind := .normal } : Frame).at { tmps := args ++ Array.replicate (fn.ntmps - args.size) undef, defers := [] } [.code c] := by
    simp [Frame.enter, Frame.at, hf, hb]
  obtain ⟨e, a', w', ⟨he, hd, v, hr, hR⟩, harr⟩ := h [] cs
  rw [← henter] at harr
  rcases he with rfl | rfl
  · exact ⟨.returned v, w', _, hR, Steps.trans harr (.one step_end), rfl, rfl, hd, rfl, fn, hf, hr⟩
  · obtain ⟨todo, hs⟩ := harr
    exact ⟨.returned v, w', _, hR, hs, rfl, rfl, hd, rfl, fn, hf, hr⟩

/-! Another world to start from, but for one block -/
theorem IsSt.frame {R : Ref} {s : St} {a : Act} {w : World} (h : IsSt R s a w) {k : Nat} (hk : k < R.w0.heap.size) (ho : ¬ R.own k) : w.heap[k]? = R.w0.heap[k]? := by
  obtain ⟨M, rfl, _, I, _⟩ := h
  exact I.frame k hk ho
theorem IsSt.grow {R : Ref} {s : St} {a : Act} {w : World} (h : IsSt R s a w) : R.w0.heap.size ≤ w.heap.size := by
  obtain ⟨M, rfl, _, I, _⟩ := h
  exact I.size

theorem rebase {R : Ref} {s : St} {a : Act} {w w' : World} (h : IsSt R s a w) (c : Nat) (hos : w'.os = w.os) (htape : w'.tape = w.tape) (hout : w'.output = w.output) (hsz : w.heap.size ≤ w'.heap.size)
    (hcell : ∀ k, k < w.heap.size → k ≠ c → w'.heap[k]? = w.heap[k]?) (hnew : R.w0.heap.size ≤ c) (hchan : ∀ cs t fr, w.heap[c]? ≠ some (.cells cs t fr)) (hchan' : ∀ cs t fr, w'.heap[c]? ≠ some (.cells cs t fr)) :
    ∃ R' : Ref, R'.w0 = w' ∧ ¬ R'.own c ∧ IsSt R' s a w' ∧ ∀ s2 a2 w2, IsSt R' s2 a2 w2 → IsSt R s2 a2 w2 := by
  obtain ⟨M, rfl, hb, I, hr⟩ := h
  have hblk' : ∀ b d B, lk b M.bs = some (d, B) → ∀ k, blkOf (M.β b) = some k → k ≠ c := by
    intro b d B hB k hk hkc
    subst hkc
    have hRB := I.boxes b d B hB
    cases B with
    | var g x =>
      obtain ⟨blk, cs, e, h1, h2, _⟩ := hRB
      rw [h1] at hk
      simp [blkOf] at hk
      subst hk
      exact hchan _ _ _ h2
    | row e g xs fz =>
      obtain ⟨cs, ho, _⟩ := hRB
      rcases ho.2 with ⟨hv, _⟩ | ⟨g', cap, cur, hv, _, h2, _⟩
      · rw [hv] at hk; simp [blkOf] at hk
      · rw [hv] at hk
        simp [blkOf] at hk
        subst hk
        exact hchan _ _ _ h2
  have nocell : ∀ (v : World) (o : Nat), (∀ cs t fr, v.heap[c]? ≠ some (.cells cs t fr)) → v.cell? ⟨c, o, none⟩ = none := by
    intro v o hv
    unfold World.cell?
    split
    · rename_i cc t fr hcc
      exact absurd hcc (hv _ _ _)
    · rfl
  have hk : Keeps M.S M.S M.w w' := by
    intro k o hS
    refine ⟨hS, ?_⟩
    by_cases hkc : k = c
    · subst hkc
      rw [nocell _ o hchan, nocell _ o hchan']
    · exact cell_of_heap (hcell k (I.here k o hS).2 hkc)
  have ref : ∀ {R1 R2 : Ref} {v : Value} {B : Box} {W : World} {S : Stab}, (∀ blk, R1.new blk → blkOf v = some blk → R2.new blk) → RelB R1 W S v B → RelB R2 W S v B := by
    intro R1 R2 v B W S hn hB
    cases B with
    | var g x =>
      obtain ⟨blk, cs, e, h1, h2, h3, h4, h5⟩ := hB
      exact ⟨blk, cs, e, h1, h2, h3, h4, hn blk h5 (by rw [h1]; rfl)⟩
    | row e g xs fz =>
      obtain ⟨cs, h1, h2, h3, h4, h5, h6⟩ := hB
      exact ⟨cs, h1, h2, h3, h4, h5, fun blk hb => ⟨hn blk (h6 blk hb).1 hb, (h6 blk hb).2⟩⟩
  have st : Step M { M with w := w' } (fun _ => False) := ⟨hk, fun b d B h _ => ⟨d, B, h, rfl, Box.le_refl B⟩⟩
  refine ⟨⟨w', fun k => R.new k ∧ k ≠ c, M.S, (R.tab.keeps I.old).keeps hk⟩, rfl, fun h => h.2 rfl, ?_, ?_⟩
  · refine ⟨{ M with w := w' }, rfl, hb, ⟨rfl, rfl, rfl, Nat.le_refl _, fun _ _ _ => rfl, Keeps.refl _ _, fun b o hs => ⟨.inl hs, Nat.lt_of_lt_of_le (I.here b o hs).2 hsz⟩, fun b d B hB => ?_, I.sep⟩, fun t => (hr t).step st (fun b hb => hb.elim)⟩
    have hRB := I.boxes b d B hB
    have hm := hRB.move hk (fun blk hblk => hcell blk (hRB.lt blk hblk) (hblk' b d B hB blk hblk)) (fun blk o hblk hs => hs)
    exact ref (fun blk hn hv => .inr ⟨hn, hblk' b d B hB blk hv⟩) hm
  · rintro s2 a2 w2 ⟨M2, rfl, hb2, I2, hr2⟩
    refine ⟨M2, rfl, hb2, ⟨I2.os.trans (hos.trans I.os), I2.tape.trans (htape.trans I.tape), I2.output.trans (hout.trans I.output), Nat.le_trans I.size (Nat.le_trans hsz I2.size), ?_, I.old.trans (hk.trans I2.old), ?_, ?_, I2.sep⟩, hr2⟩
    · intro k h1 h2
      have hkc : k ≠ c := by omega
      have hno : ¬ (R.new k ∧ k ≠ c) := by
        rintro ⟨h3 | h3, _⟩
        · omega
        · exact h2 h3
      have h4 : k < M.w.heap.size := Nat.lt_of_lt_of_le h1 I.size
      exact (I2.frame k (Nat.lt_of_lt_of_le h4 hsz) hno).trans ((hcell k h4 hkc).trans (I.frame k h1 h2))
    · intro b o hs
      obtain ⟨h1, h2⟩ := I2.here b o hs
      refine ⟨?_, h2⟩
      rcases h1 with h1 | h1 | h1
      · exact (I.here b o h1).1
      · exact .inr (.inl (Nat.le_trans (Nat.le_trans I.size hsz) h1))
      · exact .inr h1.1
    · intro b d B hB
      refine ref (fun blk hn _ => ?_) (I2.boxes b d B hB)
      rcases hn with h1 | h1
      · exact .inl (Nat.le_trans (Nat.le_trans I.size hsz) h1)
      · exact h1.1

/-! A call's beginning, and its end -/
theorem start_st {w : World} {S : Stab} {us : List Value} {gs : List GTy} {x : dens gs} (hS : ∀ b o, S b o → b < w.heap.size) (hT : Tab S w) (henc : EncD w S gs x us) (n : Nat) :
    IsSt ⟨w, fun _ => False, S, hT⟩ { tmps := number 0 (resL gs x), boxes := [] } { tmps := us.toArray ++ Array.replicate (n - us.toArray.size) undef, defers := [] } w := by
  let R : Ref := ⟨w, fun _ => False, S, hT⟩
  let M : Mem := ⟨w, S, fun _ => undef, []⟩
  have I : InvM R M := ⟨rfl, rfl, rfl, Nat.le_refl _, fun _ _ _ => rfl, Keeps.refl _ _, fun b o hs => ⟨.inl hs, hS b o hs⟩, fun b d B hb => by simp [M, lk] at hb, fun b c d B d' B' _ hb => by simp [M, lk] at hb⟩
  have hrl := resL_rel (M := M) (gs := gs) (x := x) (us := us) henc
  refine ⟨M, rfl, rfl, I, fun t => ?_⟩
  show RelV M ((lk t (number 0 (resL gs x))).getD .undef) _
  rw [lk_number]
  simp only [Nat.zero_le, if_true, Nat.sub_zero]
  cases hv : (resL gs x)[t]? with
  | none => simp [RelV]
  | some v =>
    obtain ⟨u, h1, h2⟩ := hrl.get t hv
    have hlt := (List.getElem?_eq_some_iff.1 h1).1
    have : (us.toArray ++ Array.replicate (n - us.toArray.size) undef).getD t undef = u := by
      simp only [Array.getD_eq_getD_getElem?]
      rw [Array.getElem?_append_left (by simpa using hlt)]
      simp [h1]
    rw [this]
    simpa using h2

theorem finish_st (TOK : TysOK P C.τ) {w w' : World} {S : Stab} {hT : Tab S w} {s' : St} {a' : Act} {fn : Func} {res : List GTy} {y : dens res} (hs : IsSt ⟨w, fun _ => False, S, hT⟩ s' a' w') (hF : (evRes C fn res (.normal, s')).holds (fun z => z = y)) :
    ∃ v, (results fn a'.tmps).run P w' = .ok v w' ∧ ∃ v', Ending.returned v = Ending.returned v' ∧ Grows w w' ∧ ∃ N : Stab, (∀ b o, N b o → w.heap.size ≤ b ∧ b < w'.heap.size) ∧ RelRes w' (fun b o => S b o ∨ N b o) res y v' := by
  obtain ⟨M', rfl, hb', I', hr'⟩ := hs
  simp only [evRes] at hF
  split at hF
  · exact hF.elim
  rename_i aas has
  split at hF
  · exact hF.elim
  rename_i z ws htk
  simp only [Tree.holds] at hF
  subst hF
  obtain ⟨us', q1, q2⟩ := resArgs_sound TOK I' hb' hr' has
  obtain ⟨_, S', fz, henc'⟩ := takes_sound I' q2 htk
  refine ⟨_, results_run q1, _, rfl, ⟨I'.os, I'.tape, I'.output, I'.size, fun k hk => I'.frame k hk id⟩, fun b o => S' b o ∧ w.heap.size ≤ b, fun b o hN => ⟨hN.2, (fz.inv.here b o hN.1).2⟩, us', ?_, by rcases us' with _ | ⟨u, _ | ⟨v, us⟩⟩ <;> rfl⟩
  refine henc'.keeps (fun b o hs => ⟨?_, rfl⟩)
  rcases (fz.inv.here b o hs).1 with h3 | h3 | h3
  · exact .inl h3
  · exact .inr ⟨hs, h3⟩
  · exact h3.elim

/-! Slots that nothing is known of -/
theorem IsSt.put_undef {R : Ref} {s : St} {d : Nat} {v : Value} (h : IsSt R s a w) (hd : s.look d = .undef) (hsz : d < a.tmps.size) : IsSt R s (a.put (some d) v) w := by
  obtain ⟨M, hM, hb, I, hr⟩ := h
  refine ⟨M, hM, hb, I, fun t => ?_⟩
  rw [put_getD a (some d) v t (fun k hk => by cases hk; exact hsz)]
  split
  · rename_i ht
    cases ht
    rw [hd]; simp [RelV]
  · exact hr t
theorem IsSt.put_known {R : Ref} {s : St} {d : Nat} {v : Value} {av : AV} (h : IsSt R s a w) (hv : ∀ M, RelV M av v) (hsz : d < a.tmps.size) : IsSt R (s.put d av) (a.put (some d) v) w := by
  obtain ⟨M, hM, hb, I, hr⟩ := h
  refine ⟨M, hM, hb, I, fun t => ?_⟩
  rw [put_getD a (some d) v t (fun k hk => by cases hk; exact hsz), look_put]
  by_cases ht : t = d
  · subst ht
    simp [hv]
  · rw [if_neg ht, if_neg (fun e => ht (by cases e; rfl))]
    exact hr t
theorem IsSt.grows {R : Ref} {s : St} {w' : World} (h : IsSt R s a w) (g : Grows w w') : IsSt R s a w' := by
  obtain ⟨M, rfl, hb, I, hr⟩ := h
  obtain ⟨I2, st⟩ := I.grow g
  exact ⟨{ M with w := w' }, rfl, hb, I2, fun t => (hr t).steps st⟩
theorem put_same {d t : Nat} {v : Value} (hsz : d < a.tmps.size) (h : t ≠ d) : (a.put (some d) v).tmps.getD t undef = a.tmps.getD t undef := by
  rw [put_getD a (some d) v t (fun k hk => by cases hk; exact hsz), if_neg (fun e => h (by cases e; rfl))]
theorem put_at {d : Nat} {v : Value} (hsz : d < a.tmps.size) : (a.put (some d) v).tmps.getD d undef = v := by
  rw [put_getD a (some d) v d (fun k hk => by cases hk; exact hsz), if_pos rfl]

theorem RegTo.yields {i : Nat} {o : Oper} {K : Value → World → Prop} (ho : ops[i]? = some o) (hg : o.guard = none) (h : Yields P a.eval o w K) (hk : ∀ v w', K v w' → RegTo P b ops l Q (a.put o.dst v) w') : RegTo P b ops (i :: l) Q a w := by
  intro k cs
  have hw : Region.wanted o (yielded ops a.tmps) = true := by simp [Region.wanted, hg]
  have hgo := stepG_op (P := P) (b := b) (k := k) (cs := cs) (w := w) (rest := l) ho hw
  have hfin : ∀ v, (b.at a (.inRegion ops (i :: l) :: k)).finish v = b.at (a.put o.dst v) (.inRegion ops l :: k) := by
    intro v; rw [Frame.finish_at, ho]; rfl
  unfold Yields at h
  split at h
  · rename_i v w' hr
    obtain ⟨e, a', w'', hq, harr⟩ := hk v w' h k cs
    refine ⟨e, a', w'', hq, .of_steps (.one (step_lone_go ?_)) harr⟩
    rw [hgo, ← hfin]; simp [stepG.apply, hr]
  · rename_i w' hr
    obtain ⟨e, a', w'', hq, harr⟩ := hk undef w' h k cs
    refine ⟨e, a', w'', hq, .of_steps (.one (step_lone_go ?_)) harr⟩
    rw [hgo, ← hfin]; simp [stepG.apply, hr]
  · rename_i f args w' hr
    obtain ⟨e, w'', fr, ⟨v, rfl, hv⟩, hsteps, _, hleave⟩ := h (b.at a (.inRegion ops (i :: l) :: k) :: cs)
    have henter : step P (lone (b.at a (.inRegion ops (i :: l) :: k)) cs w) = .next (lone (Frame.enter P f args .normal) (b.at a (.inRegion ops (i :: l) :: k) :: cs) w') :=
      step_lone_go (by rw [hgo]; simp [stepG.apply, hr, Frame.at])
    obtain ⟨e, a', w₃, hq, harr⟩ := hk v w'' hv k cs
    refine ⟨e, a', w₃, hq, .of_steps (.head henter (hsteps.trans (.one ?_))) harr⟩
    rw [← hfin]; exact step_leave_returned hleave
  · exact h.elim

theorem RegTo.op (TOK : TysOK P C.τ) (GOK : CtrsOK P C.Γ) {R : Ref} {s : St} {i : Nat} {o : Oper} {e : Eff} (ho : ops[i]? = some o) (hg : o.guard = none) (hs : IsSt R s a w) (he : opEff C.τ C.Γ (o.dst.getD 0) o (s.args o) = some e) (hn : e.ok) (hd : ∀ k, o.dst = some k → k < a.tmps.size)
    (hnext : ∀ a' w', IsSt R (s.after o e) a' w' → Apart (fun t => o.dst = some t) s a (s.after o e) a' → RegTo P b ops l Q a' w') : RegTo P b ops (i :: l) Q a w := by
  obtain ⟨M, hM, hb, I, hr⟩ := hs
  rw [args_eq s o hb] at he
  have := opEff_sound TOK GOK I (eval_func a) (opRel_of hr o) he hn
  rw [hM] at this
  refine RegTo.yields ho hg this (fun v w' hv => ?_)
  obtain ⟨h1, h2⟩ := IsSt.after hM hb hr hd hv
  exact hnext _ _ h1 h2

/-- A piece, read back: what is answered, or the slots of a shape. -/
def pieceT (C : Ctx) (fn : Func) (res : List GTy) (ts : List (Nat × Sh)) (bs : List (Nat × BSh)) (l : List Code) (s : St) : Tree (Option (dens res) × Option (ShT ts × ShB bs)) :=
  (evL C l s).bind fun p => match p.1 with
    | .ret => (evRes C fn res (.normal, p.2)).bind fun y => .leaf (some y, none)
    | .normal => match restrict { prom := [], keep := ts.map (·.1), boxes := bs.map (·.1), sum := fun _ => .stuck } p.2 with
      | none => .stuck
      | some s' => .leaf (none, unS ts bs s')
    | .exit _ => .stuck

theorem piece_to (TOK : TysOK P C.τ) (GC : CtrsOK P C.Γ) (hmix : P.follows .mixedOrders = true) {R : Ref} {fn : Func} {res : List GTy} {ts : List (Nat × Sh)} {bs : List (Nat × BSh)} {rest l : List Code} {s : St} {G : Option (dens res) × Option (ShT ts × ShB bs) → Prop} (hl : ∀ c ∈ l, LamOK C c) (hsz : ∀ c ∈ l, ∀ t ∈ writes c, t < a.tmps.size) (hs : IsSt R s a w) (hG : (pieceT C fn res ts bs l s).holds G)
    (hret : ∀ y s' a' w', G (some y, none) → IsSt R s' a' w' → a'.defers = a.defers → (evRes C fn res (.normal, s')).holds (fun z => z = y) → Q .ret a' w')
    (hgo : ∀ x a' w', G (none, some x) → IsSt R (mkS ts bs x) a' w' → a'.tmps.size = a.tmps.size → a'.defers = a.defers → (∀ t, (∀ c ∈ l, t ∉ writes c) → a'.tmps.getD t undef = a.tmps.getD t undef) → LTo P b rest Q a' w')
    (hbad : ¬ G (none, none)) : LTo P b (l ++ rest) Q a w := by
  refine evL_to TOK GC hmix l s a w hl hsz hs (holds_bind.1 hG) ?_
  intro z s' a' w' hF h1 h2 h3 h4
  cases z with
  | normal =>
    simp only at hF
    split at hF
    · exact hF.elim
    · rename_i s'' hr
      have h5 := h1.restr (restrict_spec hr)
      simp only [Tree.holds] at hF
      cases hu : unS ts bs s'' with
      | none => rw [hu] at hF; exact absurd hF hbad
      | some x =>
        rw [hu] at hF
        have := unS_eq hu
        subst this
        exact hgo x a' w' hF h5 h2 h3 h4
  | ret =>
    have hF' := holds_bind.1 hF
    have key : ∀ (t : Tree (dens res)), t = evRes C fn res (.normal, s') → t.holds (fun y => (Tree.leaf (some y, none)).holds G) → Q .ret a' w' := by
      intro t ht hh
      cases t with
      | leaf y => exact hret y s' a' w' hh h1 h3 (by rw [← ht]; rfl)
      | stuck => exact hh.elim
      | br c t e =>
        exfalso
        simp only [evRes] at ht
        split at ht
        · cases ht
        · split at ht <;> cases ht
      | need p t =>
        exfalso
        simp only [evRes] at ht
        split at ht
        · cases ht
        · split at ht <;> cases ht
    exact key _ rfl hF'
  | exit id => exact hF.elim

/-! A channel kept beside the evaluator -/
theorem IsSt.bool {R : Ref} {s : St} {d : Nat} {t : Bool} (h : IsSt R s a w) (hl : s.look d = .val .bool t) : a.eval (.tmp d) = .bool t := by
  obtain ⟨M, _, _, _, hr⟩ := h
  have := hr d
  rw [hl] at this
  obtain ⟨cs, h1, h2⟩ := this
  have h3 : cs = [.bool t] := h1
  subst h3
  exact h2

/-- In these slots this is known; slot d holds a channel, and what the channel is. -/
structure Hd (R0 : Ref) (c : Nat) (obj : Obj) (n d : Nat) (s : St) (a : Act) (w : World) : Prop where
  new : R0.w0.heap.size ≤ c
  size : a.tmps.size = n
  defers : a.defers = []
  slot : a.tmps.getD d undef = .chan (some c)
  st : ∃ R : Ref, R.w0.heap[c]? = some obj ∧ ¬ R.own c ∧ IsSt R s a w ∧ ∀ s2 a2 w2, IsSt R s2 a2 w2 → IsSt R0 s2 a2 w2

variable {R0 : Ref} {c : Nat} {obj : Obj} {n d : Nat} {s : St}

theorem Hd.heap (h : Hd R0 c obj n d s a w) : w.heap[c]? = some obj := by
  obtain ⟨R, h1, h2, h3, _⟩ := h.st
  rw [h3.frame (Array.getElem?_eq_some_iff.1 h1).1 h2]
  exact h1
theorem Hd.old (h : Hd R0 c obj n d s a w) : IsSt R0 s a w := by
  obtain ⟨R, _, _, h3, h4⟩ := h.st
  exact h4 _ _ _ h3
theorem Hd.restr {L : LoopSpec} {s' : St} (h : Hd R0 c obj n d s a w) (hr : restrict L s = some s') : Hd R0 c obj n d s' a w := by
  obtain ⟨R, h1, h2, h3, h4⟩ := h.st
  exact ⟨h.new, h.size, h.defers, h.slot, R, h1, h2, h3.restr (restrict_spec hr), h4⟩
theorem Hd.undef {k : Nat} {v : Value} (h : Hd R0 c obj n d s a w) (hl : s.look k = .undef) (hk : k < n) (hd : d ≠ k) : Hd R0 c obj n d s (a.put (some k) v) w := by
  obtain ⟨R, h1, h2, h3, h4⟩ := h.st
  have hk' : k < a.tmps.size := by rw [h.size]; exact hk
  exact ⟨h.new, (put_size _ _ _).trans h.size, (put_defers' _ _ _).trans h.defers, (put_same hk' hd).trans h.slot, R, h1, h2, h3.put_undef hl hk', h4⟩
theorem Hd.known {k : Nat} {v : Value} {av : AV} (h : Hd R0 c obj n d s a w) (hv : ∀ M, RelV M av v) (hk : k < n) (hd : d ≠ k) : Hd R0 c obj n d (s.put k av) (a.put (some k) v) w := by
  obtain ⟨R, h1, h2, h3, h4⟩ := h.st
  have hk' : k < a.tmps.size := by rw [h.size]; exact hk
  exact ⟨h.new, (put_size _ _ _).trans h.size, (put_defers' _ _ _).trans h.defers, (put_same hk' hd).trans h.slot, R, h1, h2, h3.put_known hv hk', h4⟩
theorem Hd.set {cap cap' sn rn sn' rn' : Nat} {buf buf' : Array Value} {cl cl' tm tm' : Bool} (h : Hd R0 c (.chan cap buf cl sn rn tm) n d s a w) : Hd R0 c (.chan cap' buf' cl' sn' rn' tm') n d s a (w.setChan c cap' buf' cl' sn' rn' tm') := by
  have hc := h.heap
  have hlt : c < w.heap.size := (Array.getElem?_eq_some_iff.1 hc).1
  have hs := heap_setChan w c cap' buf' cl' sn' rn' tm' hlt
  obtain ⟨R', h1, h2, h3, h4⟩ := rebase (w' := w.setChan c cap' buf' cl' sn' rn' tm') h.old c rfl rfl rfl (by rw [size_setChan]; exact Nat.le_refl _) (fun k _ hk => by simp [World.setChan, Array.getElem?_setIfInBounds_ne (Ne.symm hk)]) h.new (fun _ _ _ => by rw [hc]; intro e; cases e) (fun _ _ _ => by rw [hs]; intro e; cases e)
  exact ⟨h.new, h.size, h.defers, h.slot, R', by rw [h1]; exact hs, h2, h3, h4⟩
theorem at_make {cap : Nat} {buf : Array Value} {cl tm : Bool} {sn rn : Nat} (h : IsSt R0 s a (w.alloc (.chan cap buf cl sn rn tm))) (hw : R0.w0.heap.size ≤ w.heap.size) (hs : a.tmps.size = n) (hd : a.defers = []) (hc : a.tmps.getD d undef = .chan (some w.heap.size)) :
    Hd R0 w.heap.size (.chan cap buf cl sn rn tm) n d s a (w.alloc (.chan cap buf cl sn rn tm)) := by
  have hn := heap_alloc_new w (.chan cap buf cl sn rn tm)
  obtain ⟨R', h1, h2, h3, h4⟩ := rebase (w' := w.alloc (.chan cap buf cl sn rn tm)) h w.heap.size rfl rfl rfl (Nat.le_refl _) (fun _ _ _ => rfl) hw (fun _ _ _ => by rw [hn]; intro e; cases e) (fun _ _ _ => by rw [hn]; intro e; cases e)
  exact ⟨hw, hs, hd, hc, R', by rw [h1]; exact hn, h2, h3, h4⟩
theorem Hd.op (TOK : TysOK P C.τ) (GOK : CtrsOK P C.Γ) {i : Nat} {o : Oper} {e : Eff} (h : Hd R0 c obj n d s a w) (ho : ops[i]? = some o) (hg : o.guard = none) (he : opEff C.τ C.Γ (o.dst.getD 0) o (s.args o) = some e) (hn : e.ok) (hk : ∀ k, o.dst = some k → k < n ∧ k ≠ d)
    (hnext : ∀ a' w', Hd R0 c obj n d (s.after o e) a' w' → (∀ t, o.dst ≠ some t → a'.tmps.getD t Go.undef = a.tmps.getD t Go.undef) → RegTo P b ops l Q a' w') : RegTo P b ops (i :: l) Q a w := by
  obtain ⟨R, h1, h2, h3, h4⟩ := h.st
  refine RegTo.op TOK GOK ho hg h3 he hn (fun k hk' => by rw [h.size]; exact (hk k hk').1) fun a' w' h5 h6 => hnext a' w' ⟨h.new, h6.size.trans h.size, h6.defers.trans h.defers, (h6.tmps d (fun hd => (hk d hd).2 rfl)).trans h.slot, R, h1, h2, h5, h4⟩ (fun t ht => h6.tmps t ht)
theorem Hd.move {i k : Nat} {o : Oper} (h : Hd R0 c obj n d s a w) (ho : ops[i]? = some o) (hg : o.guard = none) (hop : o.op = .move (.tmp d)) (hdst : o.dst = some k) (hl : s.look k = .undef) (hk : k < n) (hd : d ≠ k)
    (hnext : ∀ a', Hd R0 c obj n d s a' w → a'.tmps.getD k Go.undef = .chan (some c) → RegTo P b ops l Q a' w) : RegTo P b ops (i :: l) Q a w := by
  refine RegTo.value (v := .chan (some c)) (w' := w) ho hg ?_ ?_
  · have he : a.eval (.tmp d) = .chan (some c) := h.slot
    unfold execOp
    rw [hop]
    simp only [he]
    rfl
  · rw [hdst]
    exact hnext _ (h.undef hl hk hd) (put_at (by rw [h.size]; exact hk))
theorem Hd.send {i k cap sn rn : Nat} {buf : Array Value} {tm : Bool} {y : Operand} {o : Oper} (h : Hd R0 c (.chan cap buf false sn rn tm) n d s a w) (ho : ops[i]? = some o) (hg : o.guard = none) (hb : b.kind ≠ .early) (hop : o.op = .send (.tmp k) y) (hdst : o.dst = none) (hx : a.tmps.getD k Go.undef = .chan (some c)) (hroom : buf.size < cap)
    (hnext : ∀ v w', Hd R0 c (.chan cap (buf.push v) false (sn + 1) rn tm) n d s a w' → RegTo P b ops l Q a w') : RegTo P b ops (i :: l) Q a w := by
  refine RegTo.send ho hg hb hop hx rfl h.heap hroom ?_
  rw [hdst]
  exact hnext _ _ h.set
theorem Hd.select {i k x et cap sn rn : Nat} {buf : Array Value} {tm : Bool} {z : Value} {o : Oper} (h : Hd R0 c (.chan cap buf false sn rn tm) n d s a w) (ho : ops[i]? = some o) (hg : o.guard = none) (hb : b.kind ≠ .early) (hop : o.op = .select #[⟨.tmp x, none, et⟩] false) (hdst : o.dst = some k) (hx : a.tmps.getD x Go.undef = .chan (some c))
    (hz : (zeroValue et).run P w = .ok z w) (hk : k < n) (hd : d ≠ k)
    (hnext : ∀ buf' rn' a' w', Hd R0 c (.chan cap buf' false sn rn' tm) n d (s.put k (.tup [.val (.int .i64) (if buf.isEmpty = true then (-1 : Int) else 0), .undef, .undef])) a' w' → RegTo P b ops l Q a' w') : RegTo P b ops (i :: l) Q a w := by
  have hex : (execOp a.eval o).run P w = .ok (.comm #[rcase c z] false .select) w := by
    have he : a.eval (.tmp x) = .chan (some c) := hx
    unfold execOp
    rw [hop]
    simp [he, hz, rcase]
  have rel : ∀ (m : Int) (e1 e2 : Value) (M : Mem), IntKind.i64.has m → RelV M (.tup [.val (.int .i64) m, .undef, .undef]) (.tuple #[.int .i64 m, e1, e2]) := by
    intro m e1 e2 M hm
    exact ⟨_, rfl, ⟨[.int .i64 m], ⟨rfl, hm⟩, rfl⟩, trivial, trivial, trivial⟩
  by_cases he : buf = #[]
  · subst he
    refine RegTo.select_none ho hg hb hex h.heap ?_
    rw [hdst]
    exact hnext #[] rn _ _ (h.known (fun M => rel (-1) _ _ M (by simp [IntKind.has, IntKind.min, IntKind.max, IntKind.bits, IntKind.signed])) hk hd)
  · have hs : 0 < buf.size := Nat.pos_of_ne_zero (fun e => he (Array.size_eq_zero_iff.1 e))
    refine RegTo.select_recv ho hg hb hex h.heap hs ?_
    rw [hdst]
    have hm : (if buf.isEmpty = true then (-1 : Int) else 0) = 0 := by simp [he]
    rw [hm] at hnext
    exact hnext _ _ _ _ (Hd.known h.set (fun M => rel 0 _ _ M (by simp [IntKind.has, IntKind.min, IntKind.max, IntKind.bits, IntKind.signed])) hk hd)
def calmL (n d : Nat) (cs : List Code) : Bool := cs.all fun x => (loopsOf x).isEmpty && (writes x).all fun t => Nat.blt t n && !(Nat.beq t d)
theorem calmL_lam {cs : List Code} (h : calmL n d cs = true) : ∀ x ∈ cs, LamOK C x := fun x hx => by
  unfold calmL at h
  rw [List.all_eq_true] at h
  have h1 := h x hx
  rw [Bool.and_eq_true] at h1
  have h2 : loopsOf x = [] := by simpa using h1.1
  exact lam_of x fun id body hm => by rw [h2] at hm; cases hm
theorem calmL_wr {cs : List Code} (h : calmL n d cs = true) : ∀ x ∈ cs, ∀ t ∈ writes x, t < n ∧ t ≠ d := fun x hx t ht => by
  unfold calmL at h
  rw [List.all_eq_true] at h
  have h1 := h x hx
  rw [Bool.and_eq_true, List.all_eq_true] at h1
  have h2 := h1.2 t ht
  rw [Bool.and_eq_true, Nat.blt_eq] at h2
  exact ⟨h2.1, fun e => by subst e; simp at h2⟩
theorem Hd.piece (TOK : TysOK P C.τ) (GC : CtrsOK P C.Γ) (hmix : P.follows .mixedOrders = true) {fn : Func} {res : List GTy} {ts : List (Nat × Sh)} {bs : List (Nat × BSh)} {rest cs : List Code} {G : Option (dens res) × Option (ShT ts × ShB bs) → Prop} (h : Hd R0 c obj n d s a w) (hcalm : calmL n d cs = true) (hG : (pieceT C fn res ts bs cs s).holds G)
    (hret : ∀ y s' a' w', G (some y, none) → IsSt R0 s' a' w' → a'.defers = [] → (evRes C fn res (.normal, s')).holds (fun z => z = y) → Q .ret a' w')
    (hgo : ∀ x a' w', G (none, some x) → Hd R0 c obj n d (mkS ts bs x) a' w' → LTo P b rest Q a' w')
    (hbad : ¬ G (none, none)) : LTo P b (cs ++ rest) Q a w := by
  obtain ⟨R, h1, h2, h3, h4⟩ := h.st
  have hsz := calmL_wr hcalm
  refine piece_to TOK GC hmix (calmL_lam hcalm) (fun x hx t ht => by rw [h.size]; exact (hsz x hx t ht).1) h3 hG ?_ ?_ hbad
  · intro y s' a' w' k1 k2 k3 k4
    exact hret y s' a' w' k1 (h4 _ _ _ k2) (k3.trans h.defers) k4
  · intro x a' w' k1 k2 k3 k4 k5
    exact hgo x a' w' k1 ⟨h.new, k3.trans h.size, k4.trans h.defers, (k5 d (fun x hx ht => (hsz x hx d ht).2 rfl)).trans h.slot, R, h1, h2, k2, h4⟩
theorem dst_ok {o : Oper} {m n d : Nat} (h : o.dst = some m) (hm : (Nat.blt m n && !(Nat.beq m d)) = true) : ∀ k, o.dst = some k → k < n ∧ k ≠ d := by
  intro k hk
  rw [h] at hk
  have e : m = k := Option.some.inj hk
  subst e
  rw [Bool.and_eq_true, Nat.blt_eq] at hm
  exact ⟨hm.1, fun e => by subst e; simp at hm⟩

/-- A call is at its end, and this is what it answers. -/
def finQ (C : Ctx) (fn : Func) (res : List GTy) (R0 : Ref) (y : dens res) (e : Exit) (a' : Act) (w' : World) : Prop :=
  (e = .normal ∨ e = .ret) ∧ a'.defers = [] ∧ ∃ s', IsSt R0 s' a' w' ∧ (evRes C fn res (.normal, s')).holds (fun z => z = y)

theorem ctr_of_to (TOK : TysOK P C.τ) {f : Nat} {k : Ctr} (hf : (P.funcs[f]?).isSome = true) (hname : ((fnOf P f).name == "runtime.NumGoroutine") = false) (hbody : (fnOf P f).body.isSome = true) (hn : ∀ x, (resL k.args x).length ≤ (fnOf P f).ntmps)
    (h : ∀ (R0 : Ref) (b : Frame) (x : dens k.args) (a : Act), b.kind ≠ .early → wtD k.args x → (∀ p, k.pre = some p → p x) → IsSt R0 { tmps := number 0 (resL k.args x), boxes := [] } a R0.w0 → a.tmps.size = (fnOf P f).ntmps → a.defers = [] →
      LTo P b (seqs (bodyOf (fnOf P f))) (finQ C (fnOf P f) k.res R0 (k.fn x)) a R0.w0) : CtrOK P f k := by
  refine ⟨⟨_, fnOf_eq hf, by rw [bodyOf_eq hbody]; rfl, hname⟩, fun w S us x hS hT henc hpre => ?_⟩
  have h0 := start_st (n := (fnOf P f).ntmps) hS hT henc
  have hlen := (resL_rel (M := ⟨w, S, fun _ => undef, []⟩) henc).length
  have hx := hn x
  refine calls_of_to (fnOf_eq hf) (bodyOf_eq hbody) ?_
  refine CodeTo.mono (CodeTo.seqs (h ⟨w, fun _ => False, S, hT⟩ _ x _ (fun e => by cases e) henc.wt hpre h0 (by simp; omega) rfl)) ?_
  rintro e a' w' ⟨he, hd, s', h1, h2⟩
  exact ⟨he, hd, finish_st TOK h1 h2⟩
end
end Go.Ev
/- Another world to start from, but for a set of blocks that no box owns. -/
set_option linter.unusedVariables false
set_option linter.unusedSimpArgs false
namespace Go.Ev
theorem rebaseK {R0 R : Ref} {K K' : Nat → Prop} {s : St} {a : Act} {w w' : World} (h : IsSt R s a w) (back : ∀ M, InvM R M → InvM R0 M) (hK : ∀ k, K k → k < R.w0.heap.size ∧ ¬ R.own k ∧ ∀ o, ¬ R.S0 k o)
    (hK' : ∀ k, K' k → K k ∨ w.heap.size ≤ k) (hnew : ∀ k, K' k → R0.w0.heap.size ≤ k) (hlt : ∀ k, K' k → k < w'.heap.size)
    (hos : w'.os = w.os) (htape : w'.tape = w.tape) (hout : w'.output = w.output) (hsz : w.heap.size ≤ w'.heap.size) (hcell : ∀ k, k < w.heap.size → ¬ K' k → w'.heap[k]? = w.heap[k]?) :
    ∃ R' : Ref, R'.w0 = w' ∧ (∀ k, K' k → k < R'.w0.heap.size ∧ ¬ R'.own k ∧ ∀ o, ¬ R'.S0 k o) ∧ IsSt R' s a w' ∧ ∀ M, InvM R' M → InvM R0 M := by
  obtain ⟨M, rfl, hb, I, hr⟩ := h
  have I0 := back M I
  have noS : ∀ k o, K' k → ¬ M.S k o := by
    intro k o hk hs
    obtain ⟨h1, h2⟩ := I.here k o hs
    rcases hK' k hk with h3 | h3
    · obtain ⟨g1, g2, g3⟩ := hK k h3
      rcases h1 with h1 | h1 | h1
      · exact g3 o h1
      · omega
      · exact g2 h1
    · omega
  have notK : ∀ k, R.new k → k < M.w.heap.size → ¬ K' k := by
    intro k hn hl hk
    rcases hK' k hk with h3 | h3
    · obtain ⟨g1, g2, g3⟩ := hK k h3
      rcases hn with h1 | h1
      · omega
      · exact g2 h1
    · omega
  have hblk' : ∀ b d B, lk b M.bs = some (d, B) → ∀ k, blkOf (M.β b) = some k → ¬ K' k := by
    intro b d B hB k hk
    have hRB := I.boxes b d B hB
    have hl := hRB.lt k hk
    refine notK k ?_ hl
    cases B with
    | var g x =>
      obtain ⟨blk, cs, e, h1, h2, h3, h4, h5⟩ := hRB
      rw [h1] at hk
      simp [blkOf] at hk
      subst hk
      exact h5
    | row e g xs fz =>
      obtain ⟨cs, h1, h2, h3, h4, h5, h6⟩ := hRB
      exact (h6 k hk).1
  have hk : Keeps M.S M.S M.w w' := by
    intro k o hS
    exact ⟨hS, cell_of_heap (hcell k (I.here k o hS).2 (fun hk => noS k o hk hS))⟩
  have ref : ∀ {R1 R2 : Ref} {v : Value} {B : Box} {W : World} {S : Stab}, (∀ blk, R1.new blk → blkOf v = some blk → R2.new blk) → RelB R1 W S v B → RelB R2 W S v B := by
    intro R1 R2 v B W S hn hB
    cases B with
    | var g x =>
      obtain ⟨blk, cs, e, h1, h2, h3, h4, h5⟩ := hB
      exact ⟨blk, cs, e, h1, h2, h3, h4, hn blk h5 (by rw [h1]; rfl)⟩
    | row e g xs fz =>
      obtain ⟨cs, h1, h2, h3, h4, h5, h6⟩ := hB
      exact ⟨cs, h1, h2, h3, h4, h5, fun blk hb => ⟨hn blk (h6 blk hb).1 hb, (h6 blk hb).2⟩⟩
  have st : Step M { M with w := w' } (fun _ => False) := ⟨hk, fun b d B h _ => ⟨d, B, h, rfl, Box.le_refl B⟩⟩
  refine ⟨⟨w', fun k => R0.new k ∧ ¬ K' k, M.S, (R0.tab.keeps I0.old).keeps hk⟩, rfl, fun k h => ⟨hlt k h, fun g => g.2 h, fun o => noS k o h⟩, ?_, ?_⟩
  · refine ⟨{ M with w := w' }, rfl, hb, ⟨rfl, rfl, rfl, Nat.le_refl _, fun _ _ _ => rfl, Keeps.refl _ _, fun b o hs => ⟨.inl hs, Nat.lt_of_lt_of_le (I.here b o hs).2 hsz⟩, fun b d B hB => ?_, I.sep⟩, fun t => (hr t).step st (fun b hb => hb.elim)⟩
    have hRB := I0.boxes b d B hB
    have hm := hRB.move hk (fun blk hblk => hcell blk (hRB.lt blk hblk) (hblk' b d B hB blk hblk)) (fun blk o hblk hs => hs)
    exact ref (fun blk hn hv => .inr ⟨hn, hblk' b d B hB blk hv⟩) hm
  · intro M2 I2
    refine ⟨I2.os.trans (hos.trans I0.os), I2.tape.trans (htape.trans I0.tape), I2.output.trans (hout.trans I0.output), Nat.le_trans I0.size (Nat.le_trans hsz I2.size), ?_, I0.old.trans (hk.trans I2.old), ?_, ?_, I2.sep⟩
    · intro k h1 h2
      have hkc : ¬ K' k := fun h => by have := hnew k h; omega
      have hno : ¬ (R0.new k ∧ ¬ K' k) := by
        rintro ⟨h3 | h3, _⟩
        · omega
        · exact h2 h3
      have h4 : k < M.w.heap.size := Nat.lt_of_lt_of_le h1 I0.size
      exact (I2.frame k (Nat.lt_of_lt_of_le h4 hsz) hno).trans ((hcell k h4 hkc).trans (I0.frame k h1 h2))
    · intro b o hs
      obtain ⟨h1, h2⟩ := I2.here b o hs
      refine ⟨?_, h2⟩
      rcases h1 with h1 | h1 | h1
      · exact (I0.here b o h1).1
      · exact .inr (.inl (Nat.le_trans (Nat.le_trans I0.size hsz) h1))
      · exact .inr h1.1
    · intro b d B hB
      refine ref (fun blk hn _ => ?_) (I2.boxes b d B hB)
      rcases hn with h1 | h1
      · exact .inl (Nat.le_trans (Nat.le_trans I0.size hsz) h1)
      · exact h1.1

section
variable {P : Program} {C : Ctx} {b : Frame} {Q : Exit → Act → World → Prop} {a : Act} {w : World} {ops : Array Oper} {l : List Nat}
/-- In these slots this is known; some slots hold these values; these blocks are such. -/
structure Kd (R0 : Ref) (K : Nat → Prop) (W : Nat → Option Obj) (n : Nat) (sl : List (Nat × Value)) (s : St) (a : Act) (w : World) : Prop where
  new : ∀ k, K k → R0.w0.heap.size ≤ k
  size : a.tmps.size = n
  defers : a.defers = []
  slots : ∀ p ∈ sl, a.tmps.getD p.1 undef = p.2
  st : ∃ R : Ref, (∀ k, K k → k < R.w0.heap.size ∧ ¬ R.own k ∧ ∀ o, ¬ R.S0 k o) ∧ (∀ k, K k → R.w0.heap[k]? = W k) ∧ IsSt R s a w ∧ ∀ M, InvM R M → InvM R0 M
variable {R0 : Ref} {K : Nat → Prop} {W : Nat → Option Obj} {n : Nat} {sl : List (Nat × Value)} {s : St}
theorem Kd.heap (h : Kd R0 K W n sl s a w) {k : Nat} (hk : K k) : w.heap[k]? = W k := by
  obtain ⟨R, h1, h2, h3, _⟩ := h.st
  rw [h3.frame (h1 k hk).1 (h1 k hk).2.1]
  exact h2 k hk
theorem Kd.old (h : Kd R0 K W n sl s a w) : IsSt R0 s a w := by
  obtain ⟨R, _, _, ⟨M, hM, hb, I, hr⟩, h4⟩ := h.st
  exact ⟨M, hM, hb, h4 M I, hr⟩
theorem Kd.start (h : IsSt R0 s a w) (hs : a.tmps.size = n) (hd : a.defers = []) (hsl : ∀ p ∈ sl, a.tmps.getD p.1 undef = p.2) : Kd R0 (fun _ => False) W n sl s a w :=
  ⟨fun _ h => h.elim, hs, hd, hsl, R0, fun _ h => h.elim, fun _ h => h.elim, h, fun _ I => I⟩
theorem Kd.world {K' : Nat → Prop} {W' : Nat → Option Obj} {w' : World} (h : Kd R0 K W n sl s a w) (hK' : ∀ k, K' k → K k ∨ w.heap.size ≤ k) (hlt : ∀ k, K' k → k < w'.heap.size) (hW : ∀ k, K' k → w'.heap[k]? = W' k)
    (hos : w'.os = w.os) (htape : w'.tape = w.tape) (hout : w'.output = w.output) (hsz : w.heap.size ≤ w'.heap.size) (hcell : ∀ k, k < w.heap.size → ¬ K' k → w'.heap[k]? = w.heap[k]?) : Kd R0 K' W' n sl s a w' := by
  have hg := h.old.grow
  obtain ⟨R, h1, h2, h3, h4⟩ := h.st
  have hn : ∀ k, K' k → R0.w0.heap.size ≤ k := fun k hk => by
    rcases hK' k hk with h5 | h5
    · exact h.new k h5
    · omega
  obtain ⟨R', e, g1, g2, g3⟩ := rebaseK h3 h4 h1 hK' hn hlt hos htape hout hsz hcell
  exact ⟨hn, h.size, h.defers, h.slots, R', g1, fun k hk => by rw [e]; exact hW k hk, g2, g3⟩
theorem Kd.restr {L : LoopSpec} {s' : St} (h : Kd R0 K W n sl s a w) (hr : restrict L s = some s') : Kd R0 K W n sl s' a w := by
  obtain ⟨R, h1, h2, h3, h4⟩ := h.st
  exact ⟨h.new, h.size, h.defers, h.slots, R, h1, h2, h3.restr (restrict_spec hr), h4⟩
/-- A slot that nothing is known of takes a value that is to be kept. -/
theorem Kd.keep {k : Nat} {v : Value} (h : Kd R0 K W n sl s a w) (hl : s.look k = .undef) (hk : k < n) (hd : ∀ p ∈ sl, p.1 ≠ k) : Kd R0 K W n ((k, v) :: sl) s (a.put (some k) v) w := by
  obtain ⟨R, h1, h2, h3, h4⟩ := h.st
  have hk' : k < a.tmps.size := by rw [h.size]; exact hk
  refine ⟨h.new, (put_size _ _ _).trans h.size, (put_defers' _ _ _).trans h.defers, fun p hp => ?_, R, h1, h2, h3.put_undef hl hk', h4⟩
  rcases List.mem_cons.1 hp with rfl | hp
  · exact put_at hk'
  · exact (put_same hk' (hd p hp)).trans (h.slots p hp)
theorem Kd.less {sl' : List (Nat × Value)} (h : Kd R0 K W n sl s a w) (hs : ∀ p ∈ sl', p ∈ sl) : Kd R0 K W n sl' s a w :=
  ⟨h.new, h.size, h.defers, fun p hp => h.slots p (hs p hp), h.st⟩
theorem Kd.op (TOK : TysOK P C.τ) (GOK : CtrsOK P C.Γ) {i : Nat} {o : Oper} {e : Eff} (h : Kd R0 K W n sl s a w) (ho : ops[i]? = some o) (hg : o.guard = none) (he : opEff C.τ C.Γ (o.dst.getD 0) o (s.args o) = some e) (hn : e.ok) (hk : ∀ k, o.dst = some k → k < n ∧ ∀ p ∈ sl, p.1 ≠ k)
    (hnext : ∀ a' w', Kd R0 K W n sl (s.after o e) a' w' → RegTo P b ops l Q a' w') : RegTo P b ops (i :: l) Q a w := by
  obtain ⟨R, h1, h2, h3, h4⟩ := h.st
  refine RegTo.op TOK GOK ho hg h3 he hn (fun k hk' => by rw [h.size]; exact (hk k hk').1) fun a' w' h5 h6 => hnext a' w' ⟨h.new, h6.size.trans h.size, h6.defers.trans h.defers, fun p hp => (h6.tmps p.1 (fun hd => (hk p.1 hd).2 p hp rfl)).trans (h.slots p hp), R, h1, h2, h5, h4⟩
/-- Pieces that keep out of these slots. -/
def farL (ts : List Nat) (cs : List Code) : Bool := cs.all fun x => (writes x).all fun t => ts.all fun d => !(Nat.beq t d)
theorem farL_out {ts : List Nat} {cs : List Code} (h : farL ts cs = true) {d : Nat} (hd : d ∈ ts) : ∀ x ∈ cs, d ∉ writes x := fun x hx ht => by
  unfold farL at h
  rw [List.all_eq_true] at h
  have h1 := h x hx
  rw [List.all_eq_true] at h1
  have h2 := h1 d ht
  rw [List.all_eq_true] at h2
  have h3 := h2 d hd
  simp at h3
theorem Kd.piece (TOK : TysOK P C.τ) (GC : CtrsOK P C.Γ) (hmix : P.follows .mixedOrders = true) {fn : Func} {res : List GTy} {ts : List (Nat × Sh)} {bs : List (Nat × BSh)} {rest cs : List Code} {G : Option (dens res) × Option (ShT ts × ShB bs) → Prop} (h : Kd R0 K W n sl s a w) (hcalm : calmL n n cs = true) (hfar : farL (sl.map (·.1)) cs = true) (hG : (pieceT C fn res ts bs cs s).holds G)
    (hret : ∀ y s' a' w', G (some y, none) → IsSt R0 s' a' w' → a'.defers = [] → (evRes C fn res (.normal, s')).holds (fun z => z = y) → Q .ret a' w')
    (hgo : ∀ x a' w', G (none, some x) → Kd R0 K W n sl (mkS ts bs x) a' w' → LTo P b rest Q a' w')
    (hbad : ¬ G (none, none)) : LTo P b (cs ++ rest) Q a w := by
  obtain ⟨R, h1, h2, h3, h4⟩ := h.st
  have hsz := calmL_wr hcalm
  refine piece_to TOK GC hmix (calmL_lam hcalm) (fun x hx t ht => by rw [h.size]; exact (hsz x hx t ht).1) h3 hG ?_ ?_ hbad
  · rintro y s' a' w' k1 ⟨M, hM, hb, I, hr⟩ k3 k4
    exact hret y s' a' w' k1 ⟨M, hM, hb, h4 M I, hr⟩ (k3.trans h.defers) k4
  · intro x a' w' k1 k2 k3 k4 k5
    exact hgo x a' w' k1 ⟨h.new, k3.trans h.size, k4.trans h.defers, fun p hp => (k5 p.1 (farL_out hfar (List.mem_map_of_mem hp))).trans (h.slots p hp), R, h1, h2, k2, h4⟩
/-- A loop, with what holds at its head and what goes down. -/
theorem CodeTo.loop {c : Code} (I : Nat → Act → World → Prop) (n0 : Nat) (h0 : I n0 a w) (round : ∀ n a w, I n a w → CodeTo P b c (Exit.then (fun a' w' => ∃ m, m < n ∧ I m a' w') Q) a w) : CodeTo P b (.loop c) Q a w := by
  intro k cs
  have key : ∀ n a w, I n a w → ∃ e a' w', Q e a' w' ∧ Arrives P (lone (b.at a (.code c :: .inLoop c :: k)) cs w) b k cs e a' w' := by
    intro n
    induction n using Nat.strongRecOn with
    | _ n ih =>
      intro a w hI
      obtain ⟨e, a1, w1, hq, harr⟩ := round n a w hI (.inLoop c :: k) cs
      cases e with
      | normal =>
        obtain ⟨m, hlt, hI1⟩ := hq
        obtain ⟨e2, a2, w2, hq2, harr2⟩ := ih m hlt a1 w1 hI1
        exact ⟨e2, a2, w2, hq2, .of_steps (Steps.trans harr (.one step_inLoop)) harr2⟩
      | exit id => exact ⟨_, a1, w1, hq, .pass (x := .inLoop c) rfl (fun _ _ => .inl (by simp)) harr⟩
      | goto l => exact ⟨_, a1, w1, hq, .pass (x := .inLoop c) rfl (fun _ _ => .inl (by simp)) harr⟩
      | ret => exact ⟨_, a1, w1, hq, .pass (x := .inLoop c) rfl (fun _ _ => .inl (by simp)) harr⟩
      | panic ch => exact ⟨_, a1, w1, hq, .pass (x := .inLoop c) rfl (fun _ _ => .inl (by simp)) harr⟩
      | outgrown => exact ⟨_, a1, w1, hq, .pass (x := .inLoop c) rfl (fun _ _ => .inl (by simp)) harr⟩
  obtain ⟨e, a', w', hq, harr⟩ := key n0 a w h0
  exact ⟨e, a', w', hq, .of_steps (.one step_loop) harr⟩
/-- A block: its own exit is its end. -/
theorem CodeTo.block {id : Nat} {c : Code} (h : CodeTo P b c (Exit.inBlock id Q) a w) : CodeTo P b (.block id c) Q a w := by
  intro k cs
  obtain ⟨e, a1, w1, hq, harr⟩ := h (.inBlock id :: k) cs
  cases e with
  | normal => exact ⟨.normal, a1, w1, hq, .head step_block (Steps.trans harr (.one step_inBlock))⟩
  | exit id' =>
    by_cases hid : id' = id
    · simp only [Exit.inBlock, hid, if_true] at hq
      exact ⟨.normal, a1, w1, hq, .head step_block (harr k (by simp [exitTo, hid]))⟩
    · simp only [Exit.inBlock, hid, if_false] at hq
      refine ⟨.exit id', a1, w1, hq, fun k' hk => .head step_block (harr k' ?_)⟩
      have : (id == id') = false := by simp; exact fun h => hid h.symm
      simp [exitTo, this, hk]
  | goto l => exact ⟨_, a1, w1, hq, fun k' hk => .head step_block (harr k' (by simp [gotoIn, hk]))⟩
  | ret => exact ⟨_, a1, w1, hq, .of_steps (.one step_block) harr⟩
  | panic ch => exact ⟨_, a1, w1, hq, .of_steps (.one step_block) harr⟩
  | outgrown => exact ⟨_, a1, w1, hq, .of_steps (b := b) (k := k) (cs := cs) (e := .outgrown) (.one step_block) harr⟩
theorem CodeTo.exit {id : Nat} (h : Q (.exit id) a w) : CodeTo P b (.exit id) Q a w := fun _ _ => ⟨.exit id, a, w, h, fun _ hk => .one (step_exit hk)⟩
end
end Go.Ev
/- A call beside the evaluator: of a function, or of a function value, whose Calls is given. -/
set_option linter.unusedVariables false
set_option linter.unusedSimpArgs false
namespace Go.Ev
open Go.Conc
theorem yields_call {P : Program} {ρ : Operand → Value} {o : Oper} {w : World} {K : Value → World → Prop} {x : Operand} {aas : Array Operand} {ts : Array TypeId} {f : Nat} {caps : Array Value} {fn : Func} {R : Ending → World → Prop}
    (ho : o.op = .call { callee := .value x, args := aas, argTypes := ts }) (hx : ρ x = .func (.func f) #[] caps) (hf : P.funcs[f]? = some fn) (hb : fn.body.isNone = false) (hn : (fn.name == "runtime.NumGoroutine") = false)
    (h : Calls P f (aas.map ρ ++ caps) w R) (hR : ∀ e w', R e w' → ∃ v, e = .returned v ∧ K v w') : Yields P ρ o w K := by
  have hrun : (execOp ρ o).run P w = .ok (.enter f (aas.map ρ ++ caps)) w := by
    simp only [execOp, ho, resolve, hx, Deferred.ofValue, Sem.run_bind]
    have h2' : ¬ fn.body = none := by intro hh; rw [hh] at hb; simp at hb
    have h3' : ¬ fn.name = "runtime.NumGoroutine" := by simpa using hn
    simp [invoke, callFunc, hf, h2', h3']
  unfold Yields
  rw [hrun]
  exact h.mono hR
section
variable {P : Program} {C : Ctx} {b : Frame} {Q : Exit → Act → World → Prop} {a : Act} {w : World} {ops : Array Oper} {l : List Nat} {R0 : Ref} {K : Nat → Prop} {W : Nat → Option Obj} {n : Nat} {sl : List (Nat × Value)} {s : St}
/-- What a part of a tuple is. -/
theorem RegTo.extract {i j : Nat} {o : Oper} {x : Operand} {vs : Array Value} {v : Value} (ho : ops[i]? = some o) (hg : o.guard = none) (hop : o.op = .extract x j) (hx : a.eval x = .tuple vs) (hv : vs[j]? = some v) (h : RegTo P b ops l Q (a.put o.dst v) w) : RegTo P b ops (i :: l) Q a w := by
  refine RegTo.value ho hg (v := v) (w' := w) ?_ h
  unfold execOp
  rw [hop]
  simp [hx, hv, Instr.extract]
/-- A slot's value, moved. -/
theorem RegTo.moved {i : Nat} {o : Oper} {x : Operand} (ho : ops[i]? = some o) (hg : o.guard = none) (hop : o.op = .move x ∨ o.op = .assign x) (h : RegTo P b ops l Q (a.put o.dst (a.eval x)) w) : RegTo P b ops (i :: l) Q a w := by
  refine RegTo.value ho hg (v := a.eval x) (w' := w) ?_ h
  unfold execOp
  rcases hop with hop | hop <;> rw [hop] <;> rfl
/-- A call that writes only kept blocks and new ones; what it leaves in new blocks is kept, or not. -/
theorem Kd.call {i f : Nat} {o : Oper} {x : Operand} {ar : Array Operand} {ts : Array TypeId} {caps args : Array Value} {fn : Func} {R : Ending → World → Prop} (h : Kd R0 K W n sl s a w)
    (ho : ops[i]? = some o) (hg : o.guard = none) (hop : o.op = .call { callee := .value x, args := ar, argTypes := ts }) (hx : a.eval x = .func (.func f) #[] caps) (hargs : ar.map a.eval ++ caps = args) (hf : P.funcs[f]? = some fn) (hb : fn.body.isNone = false) (hn : (fn.name == "runtime.NumGoroutine") = false)
    (hc : Calls P f args w R)
    (hR : ∀ e w', R e w' → ∃ v K' W', e = .returned v ∧ (∀ k, K' k → K k ∨ w.heap.size ≤ k) ∧ (∀ k, K' k → k < w'.heap.size) ∧ (∀ k, K' k → w'.heap[k]? = W' k) ∧ w'.os = w.os ∧ w'.tape = w.tape ∧ w'.output = w.output ∧ w.heap.size ≤ w'.heap.size ∧ (∀ k, k < w.heap.size → ¬ K' k → w'.heap[k]? = w.heap[k]?) ∧
      (Kd R0 K' W' n sl s a w' → RegTo P b ops l Q (a.put o.dst v) w')) : RegTo P b ops (i :: l) Q a w := by
  refine RegTo.yields ho hg (K := fun v w' => RegTo P b ops l Q (a.put o.dst v) w') (yields_call hop hx hf hb hn (hargs ▸ hc) fun e w' hr => ?_) (fun v w' hv => hv)
  obtain ⟨v, K', W', h1, h2, h3, h4, h5, h6, h7, h8, h9, h10⟩ := hR e w' hr
  exact ⟨v, h1, h10 (h.world h2 h3 h4 h5 h6 h7 h8 h9)⟩
theorem LTo.cons {c : Code} {cs : List Code} (h : CodeTo P b c (Exit.then (LTo P b cs Q) Q) a w) : LTo P b (c :: cs) Q a w := h
theorem Kd.known {k : Nat} {v : Value} {av : AV} (h : Kd R0 K W n sl s a w) (hv : ∀ M, RelV M av v) (hk : k < n) (hd : ∀ p ∈ sl, p.1 ≠ k) : Kd R0 K W n sl (s.put k av) (a.put (some k) v) w := by
  obtain ⟨R, h1, h2, h3, h4⟩ := h.st
  have hk' : k < a.tmps.size := by rw [h.size]; exact hk
  exact ⟨h.new, (put_size _ _ _).trans h.size, (put_defers' _ _ _).trans h.defers, fun p hp => (put_same hk' (hd p hp)).trans (h.slots p hp), R, h1, h2, h3.put_known hv hk', h4⟩
/-- Operations of a region, told by the evaluator, read back. -/
def opsT (C : Ctx) (ts : List (Nat × Sh)) (bs : List (Nat × BSh)) (l : List Oper) (s : St) : Tree (Option (ShT ts × ShB bs)) :=
  (runOps C l s).bind fun s' => match restrict { prom := [], keep := ts.map (·.1), boxes := bs.map (·.1), sum := fun _ => .stuck } s' with
    | none => .stuck
    | some s'' => .leaf (unS ts bs s'')
def farO (n : Nat) (ds : List Nat) (l : List Oper) : Bool := l.all fun o => o.guard.isNone && match o.dst with
  | some d => Nat.blt d n && ds.all fun t => !(Nat.beq t d)
  | none => true
theorem Kd.ops_run (TOK : TysOK P C.τ) (GOK : CtrsOK P C.Γ) {F : St → Prop} {l2 : List Nat} : ∀ (l1 : List Nat) {s : St} {a : Act} {w : World}, Kd R0 K W n sl s a w → (∀ i ∈ l1, i < ops.size) → farO n (sl.map (·.1)) (l1.map fun i => ops.getD i default) = true → (runOps C (l1.map fun i => ops.getD i default) s).holds F →
    (∀ s' a' w', F s' → Kd R0 K W n sl s' a' w' → RegTo P b ops l2 Q a' w') → RegTo P b ops (l1 ++ l2) Q a w
  | [], s, a, w, h, _, _, hF, hgo => hgo s a w hF h
  | i :: l1, s, a, w, h, hi, hfar, hF, hgo => by
    have hlt := hi i (by simp)
    have ho : ops[i]? = some (ops.getD i default) := by simp [hlt]
    generalize ops.getD i default = o at *
    have ho2 : ops.getD i default = o := by simp [Array.getD_eq_getD_getElem?, ho]
    simp only [List.map_cons, ho2] at hfar hF
    unfold farO at hfar
    rw [List.all_cons, Bool.and_eq_true, Bool.and_eq_true] at hfar
    obtain ⟨⟨hg, hd⟩, hrest⟩ := hfar
    simp only [runOps] at hF
    split at hF
    · exact hF.elim
    · rename_i e he
      have hF' : e.ok ∧ (runOps C (l1.map fun i => ops.getD i default) (s.after o e)).holds F := by
        cases hn : e.need with
        | none =>
          rw [hn] at hF
          exact ⟨(fun p hp => by rw [hn] at hp; cases hp), hF⟩
        | some p =>
          rw [hn] at hF
          exact ⟨(fun q hq => by rw [hn] at hq; cases hq; exact hF.1), hF.2⟩
      refine h.op TOK GOK ho (by simpa using hg) he hF'.1 (fun k hk => ?_) fun a' w' h' => Kd.ops_run TOK GOK l1 h' (fun j hj => hi j (by simp [hj])) (by unfold farO; exact hrest) hF'.2 hgo
      rw [hk] at hd
      simp only [Bool.and_eq_true, Nat.blt_eq] at hd
      refine ⟨hd.1, fun p hp => ?_⟩
      have := List.all_eq_true.1 hd.2 p.1 (List.mem_map_of_mem hp)
      intro e
      rw [e] at this
      simp at this
theorem Kd.opsL (TOK : TysOK P C.τ) (GOK : CtrsOK P C.Γ) {ts : List (Nat × Sh)} {bs : List (Nat × BSh)} {G : Option (ShT ts × ShB bs) → Prop} {l2 : List Nat} (l1 : List Nat) (h : Kd R0 K W n sl s a w) (hi : (l1.all fun i => Nat.blt i ops.size) = true) (hfar : farO n (sl.map (·.1)) (l1.map fun i => ops.getD i default) = true)
    (hG : (opsT C ts bs (l1.map fun i => ops.getD i default) s).holds G) (hgo : ∀ x a' w', G (some x) → Kd R0 K W n sl (mkS ts bs x) a' w' → RegTo P b ops l2 Q a' w') (hbad : ¬ G none) : RegTo P b ops (l1 ++ l2) Q a w := by
  refine h.ops_run TOK GOK l1 (fun i hm => ?_) hfar (holds_bind.1 hG) fun s' a' w' hF h' => ?_
  · have := List.all_eq_true.1 hi i hm
    simpa [Nat.blt_eq] using this
  · split at hF
    · exact hF.elim
    · rename_i s'' hr
      have h5 := h'.restr hr
      simp only [Tree.holds] at hF
      cases hu : unS ts bs s'' with
      | none => rw [hu] at hF; exact absurd hF hbad
      | some x =>
        rw [hu] at hF
        have := unS_eq hu
        subst this
        exact hgo x a' w' hF h5
end
theorem known_u8 {R : Ref} {s : St} {a : Act} {w : World} {t : Nat} {n : Int} (h : IsSt R s a w) (hl : s.look t = .val (.int .u8) n) : a.tmps.getD t undef = .int .u8 n := by
  obtain ⟨M, _, _, _, hr⟩ := h
  have := hr t
  rw [hl] at this
  obtain ⟨cs, h1, h2⟩ := this
  have h3 : cs = [.int .u8 n] := h1.1
  subst h3
  exact h2
theorem known_i64 {R : Ref} {s : St} {a : Act} {w : World} {t : Nat} {n : Int} (h : IsSt R s a w) (hl : s.look t = .val (.int .i64) n) : a.tmps.getD t undef = .int .i64 n := by
  obtain ⟨M, _, _, _, hr⟩ := h
  have := hr t
  rw [hl] at this
  obtain ⟨cs, h1, h2⟩ := this
  have h3 : cs = [.int .i64 n] := h1.1
  subst h3
  exact h2
theorem known_u64 {R : Ref} {s : St} {a : Act} {w : World} {t : Nat} {n : Int} (h : IsSt R s a w) (hl : s.look t = .val (.int .u64) n) : a.tmps.getD t undef = .int .u64 n := by
  obtain ⟨M, _, _, _, hr⟩ := h
  have := hr t
  rw [hl] at this
  obtain ⟨cs, h1, h2⟩ := this
  have h3 : cs = [.int .u64 n] := h1.1
  subst h3
  exact h2
theorem known_u32 {R : Ref} {s : St} {a : Act} {w : World} {t : Nat} {n : Int} (h : IsSt R s a w) (hl : s.look t = .val (.int .u32) n) : a.tmps.getD t undef = .int .u32 n := by
  obtain ⟨M, _, _, _, hr⟩ := h
  have := hr t
  rw [hl] at this
  obtain ⟨cs, h1, h2⟩ := this
  have h3 : cs = [.int .u32 n] := h1.1
  subst h3
  exact h2
theorem known_str {R : Ref} {s : St} {a : Act} {w : World} {t : Nat} {n : List UInt8} (h : IsSt R s a w) (hl : s.look t = .val .str n) : a.tmps.getD t undef = .string ⟨⟨n⟩⟩ := by
  obtain ⟨M, _, _, _, hr⟩ := h
  have := hr t
  rw [hl] at this
  obtain ⟨cs, h1, h2⟩ := this
  have h3 : cs = [.string ⟨⟨n⟩⟩] := h1.1
  subst h3
  exact h2
def rThen : Code → Code
  | .cond _ x _ => x
  | _ => .skip
def rElse : Code → Code
  | .cond _ _ x => x
  | _ => .skip
def rIn : Code → Code
  | .block _ c => c
  | _ => .skip
def rOps : Code → Array Oper
  | .region _ ops _ => ops
  | _ => #[]
def rOp (c : Code) (i : Nat) : Oper := (rOps c).getD i default
def rNth (c : Code) (i : Nat) : Code := (seqs c).getD i .skip
end Go.Ev
/- Sound costs, and configurations that may be, plainly. -/
set_option linter.unusedVariables false
set_option linter.unusedSimpArgs false
namespace Go.Ev
def costAt (c : DCosts) (n : Int) : Int := c.2.getD n.toNat 0
def okAt (c : DCosts) (n : Int) : Bool := bif hasF c.1 n then rcostF (costAt c n) else costAt c n == 0
def allOk (c : DCosts) : Nat → Bool
  | 0 => true
  | k + 1 => okAt c (16 - (k + 1 : Nat)) && allOk c k
def soundF (c : DCosts) : Bool := bif bif decide (c.1 < 0) then true else decide (c.1 ≥ 65536) then false else allOk c 16
def firstBad (c : DCosts) : Nat → Int
  | 0 => 16
  | k + 1 => bif okAt c (16 - (k + 1 : Nat)) then firstBad c k else 16 - (k + 1 : Nat)

def goodL (c : DCosts) (l : List Int) : Bool := l.all fun n => rcostF (costAt c n)
def fillL (c : DCosts) : List Int → List Int → List Int
  | [], w => w
  | n :: r, w => fillL c r (w.set n.toNat (costAt c n))
def badL (c : DCosts) : List Int → List Int → Int → Int × List Int
  | [], w, i => (i, w)
  | n :: r, w, i => bif rcostF (costAt c n) then badL c r (w.set n.toNat (costAt c n)) (i + 1) else (i, w)

theorem drop_step {α : Type} {l : List α} {i : Int} (d : α) (h0 : 0 ≤ i) (h1 : i < l.length) : l.drop i.toNat = l.getD i.toNat d :: l.drop (i + 1).toNat := by
  have h : i.toNat < l.length := by omega
  rw [List.drop_eq_getElem_cons h, show (i + 1).toNat = i.toNat + 1 by omega]
  simp [List.getD, h]

theorem mem_elems {s n : Int} : ∀ {k : Nat}, k ≤ 16 → (n ∈ elemsF s k ↔ 16 - (k : Int) ≤ n ∧ n < 16 ∧ hasF s n = true)
  | 0, _ => by simp [elemsF]; omega
  | k + 1, hk => by
    rw [elemsF, List.mem_append, mem_elems (by omega)]
    by_cases hn : n = 16 - ((k + 1 : Nat) : Int)
    · subst hn
      cases hasF s (16 - ((k + 1 : Nat) : Int)) <;> simp <;> omega
    · have : n ∈ (bif hasF s (16 - ((k + 1 : Nat) : Int)) then [(16 : Int) - ((k + 1 : Nat) : Int)] else []) ↔ False := by
        cases hasF s (16 - ((k + 1 : Nat) : Int)) with
        | false => simp
        | true => simp only [cond_true, List.mem_singleton, hn]
      rw [this, false_or]
      constructor
      · rintro ⟨a, b, c⟩; exact ⟨by omega, b, c⟩
      · rintro ⟨a, b, c⟩; exact ⟨by omega, b, c⟩

theorem allOk_iff {c : DCosts} : ∀ {k : Nat}, k ≤ 16 → (allOk c k = true ↔ ∀ n : Int, 16 - (k : Int) ≤ n → n < 16 → okAt c n = true)
  | 0, _ => by simp [allOk]; intro n h1 h2; omega
  | k + 1, hk => by
    rw [allOk, Bool.and_eq_true, allOk_iff (by omega)]
    constructor
    · rintro ⟨a, b⟩ n h1 h2
      by_cases hn : n = 16 - ((k + 1 : Nat) : Int)
      · rw [hn]; exact a
      · exact b n (by omega) h2
    · intro h
      exact ⟨h _ (by omega) (by omega), fun n h1 h2 => h n (by omega) h2⟩

theorem fill_len (c : DCosts) : ∀ (l w : List Int), (fillL c l w).length = w.length
  | [], w => rfl
  | n :: r, w => by rw [fillL, fill_len c r]; simp
theorem fill_get (c : DCosts) : ∀ (l w : List Int) (j : Nat), (∀ n ∈ l, 0 ≤ n) → j < w.length → (fillL c l w).getD j 0 = if (j : Int) ∈ l then costAt c j else w.getD j 0
  | [], w, j, _, hj => by simp [fillL]
  | n :: r, w, j, hp, hj => by
    have hn := hp n (by simp)
    rw [fillL, fill_get c r _ j (fun m hm => hp m (by simp [hm])) (by simpa using hj)]
    by_cases h : (j : Int) ∈ r
    · simp [h]
    · rw [if_neg h]
      by_cases h2 : (j : Int) = n
      · subst h2
        simp [hj]
      · have h3 : n.toNat ≠ j := by omega
        have h4 : ¬ (j : Int) ∈ n :: r := by simp [h, h2]
        rw [if_neg h4]
        simp [List.getD, List.getElem?_set, h3]

theorem go_int {k : IntKind} : ∀ (x y : List Int), x.length = y.length → geq.go (geq (.int k)) x y = decide (x = y)
  | [], [], _ => rfl
  | a :: x, b :: y, h => by
    have ih := go_int (k := k) x y (by simpa using h)
    simp only [geq.go, ih]
    show (a == b && decide (x = y)) = _
    rw [Bool.eq_iff_iff]
    simp
  | [], _ :: _, h => by simp at h
  | _ :: _, [], h => by simp at h
theorem geqArr {n : Nat} {k : IntKind} {x y : List Int} (h : x.length = y.length) : geq (.arr n (.int k)) x y = decide (x = y) := go_int x y h

theorem sound_core {c : DCosts} (hl : c.2.length = 16) :
    (bif goodL c (elemsF c.1 16) then geq (.arr 16 (.int .u32)) c.2 (fillL c (elemsF c.1 16) (List.replicate 16 0)) else false) = allOk c 16 := by
  obtain ⟨z, hz⟩ : ∃ z, z = List.replicate 16 (0 : Int) := ⟨_, rfl⟩
  have zl : z.length = 16 := by rw [hz]; rfl
  have z0 : ∀ j, z.getD j 0 = 0 := fun j => by
    rw [hz, List.getD, List.getElem?_replicate]
    split <;> rfl
  rw [← hz]
  clear hz
  rw [geqArr (by rw [fill_len, hl, zl]), Bool.eq_iff_iff, allOk_iff (Nat.le_refl _)]
  have hpos : ∀ n ∈ elemsF c.1 16, (0 : Int) ≤ n := fun n hn => by
    have := (mem_elems (Nat.le_refl _)).1 hn
    omega
  have hg : goodL c (elemsF c.1 16) = true ↔ ∀ n : Int, 0 ≤ n → n < 16 → hasF c.1 n = true → rcostF (costAt c n) = true := by
    unfold goodL
    rw [List.all_eq_true]
    constructor
    · intro h n h1 h2 h3
      exact h n ((mem_elems (Nat.le_refl _)).2 ⟨by omega, h2, h3⟩)
    · intro h n hn
      obtain ⟨h1, h2, h3⟩ := (mem_elems (Nat.le_refl _)).1 hn
      exact h n (by omega) h2 h3
  have he : c.2 = fillL c (elemsF c.1 16) z ↔ ∀ n : Int, 0 ≤ n → n < 16 → hasF c.1 n = false → costAt c n = 0 := by
    constructor
    · intro h n h1 h2 h3
      have hg := fill_get c (elemsF c.1 16) z n.toNat hpos (by omega)
      rw [← h] at hg
      have hm : ¬ ((n.toNat : Nat) : Int) ∈ elemsF c.1 16 := by
        rw [show ((n.toNat : Nat) : Int) = n by omega, mem_elems (Nat.le_refl _), h3]
        simp
      rw [if_neg hm] at hg
      unfold costAt
      rw [hg]
      exact z0 _
    · intro h
      apply List.ext_getElem
      · rw [fill_len, hl, zl]
      · intro j h1 h2
        have hj : j < 16 := by omega
        have hg := fill_get c (elemsF c.1 16) z j hpos (by omega)
        have e1 : (fillL c (elemsF c.1 16) z).getD j 0 = (fillL c (elemsF c.1 16) z)[j] := by rw [List.getD, List.getElem?_eq_getElem h2]; rfl
        have e2 : costAt c j = c.2[j] := by simp [costAt, List.getD, h1]
        rw [← e1, hg, ← e2]
        cases hb : hasF c.1 j with
        | true => rw [if_pos ((mem_elems (Nat.le_refl _)).2 ⟨by omega, by omega, hb⟩)]
        | false =>
          have hm : ¬ (j : Int) ∈ elemsF c.1 16 := by rw [mem_elems (Nat.le_refl _), hb]; simp
          rw [if_neg hm, h j (by omega) (by omega) hb]
          exact (z0 _).symm
  constructor
  · intro h n h1 h2
    cases hgg : goodL c (elemsF c.1 16) with
    | false => rw [hgg] at h; cases h
    | true =>
      rw [hgg] at h
      have h' := he.1 (of_decide_eq_true h)
      unfold okAt
      cases hb : hasF c.1 n with
      | true => exact hg.1 hgg n (by omega) h2 hb
      | false =>
        have := h' n (by omega) h2 hb
        simp [this]
  · intro h
    have h1 : goodL c (elemsF c.1 16) = true := hg.2 fun n h1 h2 h3 => by
      have := h n (by omega) h2
      unfold okAt at this
      rw [h3] at this
      exact this
    rw [h1]
    simp only [cond_true, decide_eq_true_eq]
    refine he.2 fun n h1 h2 h3 => ?_
    have := h n (by omega) h2
    unfold okAt at this
    rw [h3] at this
    simpa using this
theorem round_ok {c : DCosts} {n : Int} :
    (bif !geq GTy.bool (hasF c.1 n) (bif decide (costAt c n ≥ 1) then decide (costAt c n ≤ 65536) else false) then true else bif !hasF c.1 n then costAt c n != 0 else false) = !okAt c n := by
  unfold okAt rcostF
  rw [geqB]
  cases hasF c.1 n with
  | true => simp
  | false =>
    by_cases h : costAt c n = 0
    · simp [h]
    · have : (costAt c n != 0) = true := by simpa using h
      rw [this]
      have h2 : (costAt c n == 0) = false := by simpa using h
      rw [h2]
      simp
theorem sound_fn {c : DCosts} (hl : c.2.length = 16) :
    (bif bif decide (c.1 < 0) then true else decide (c.1 ≥ 65536) then false else bif goodL c (elemsF c.1 16) then geq (.arr 16 (.int .u32)) c.2 (fillL c (elemsF c.1 16) (List.replicate 16 0)) else false) = soundF c := by
  rw [sound_core hl]
  rfl
theorem rsound_fn (c : DCosts) : (bif allOk c 16 then bif decide (c.1 ≥ 0) then decide (c.1 ≤ 65535) else false else false) = soundF c := by
  unfold soundF
  cases allOk c 16 <;> by_cases h1 : c.1 < 0 <;> by_cases h2 : c.1 ≥ 65536 <;> simp [h1, h2] <;> omega
end Go.Ev
/- Equality of values, told as equality. -/
set_option linter.unusedVariables false
namespace Go.Ev
theorem geq_go_self {α : Type} {f : α → α → Bool} (h : ∀ x, f x x = true) : ∀ l : List α, geq.go f l l = true
  | [] => rfl
  | x :: l => by rw [geq_go_cons, h, geq_go_self h l]; rfl
theorem geq_self : ∀ (g : GTy) (x : den g), cmp g = true → geq g x x = true
  | .bool, x, _ => by simp [geq]
  | .int _, x, _ => by simp [geq]
  | .str, x, _ => by simp [geq]
  | .unit, _, _ => rfl
  | .prod a b, x, h => by
    have h' : (cmp a && cmp b) = true := h
    rw [Bool.and_eq_true] at h'
    show (geq a x.1 x.1 && geq b x.2 x.2) = true
    rw [geq_self a _ h'.1, geq_self b _ h'.2]; rfl
  | .arr n a, x, h => geq_go_self (fun y => geq_self a y h) x
  | .sl _, _, h => by cases h
theorem geq_go_eq {α : Type} {f : α → α → Bool} {p : α → Prop} (h : ∀ x y, p x → p y → f x y = true → x = y) :
    ∀ l m : List α, l.length = m.length → (∀ x ∈ l, p x) → (∀ x ∈ m, p x) → geq.go f l m = true → l = m
  | [], [], _, _, _, _ => rfl
  | [], _ :: _, e, _, _, _ => by cases e
  | _ :: _, [], e, _, _, _ => by cases e
  | x :: l, y :: m, e, hl, hm, g => by
    rw [geq_go_cons, Bool.and_eq_true] at g
    rw [h x y (hl x (List.mem_cons_self ..)) (hm y (List.mem_cons_self ..)) g.1,
      geq_go_eq h l m (by simpa using e) (fun z hz => hl z (List.mem_cons_of_mem _ hz)) (fun z hz => hm z (List.mem_cons_of_mem _ hz)) g.2]
theorem geq_eq : ∀ (g : GTy) (x y : den g), cmp g = true → wt g x → wt g y → geq g x y = true → x = y
  | .bool, x, y, _, _, _, h => by simpa [geq] using h
  | .int _, x, y, _, _, _, h => by simpa [geq] using h
  | .str, x, y, _, _, _, h => by simpa [geq] using h
  | .unit, _, _, _, _, _, _ => rfl
  | .prod a b, x, y, c, hx, hy, h => by
    have c' : (cmp a && cmp b) = true := c
    rw [Bool.and_eq_true] at c'
    have h' : (geq a x.1 y.1 && geq b x.2 y.2) = true := h
    rw [Bool.and_eq_true] at h'
    exact Prod.ext (geq_eq a _ _ c'.1 hx.1 hy.1 h'.1) (geq_eq b _ _ c'.2 hx.2 hy.2 h'.2)
  | .arr n a, x, y, c, hx, hy, h => geq_go_eq (p := wt a) (fun u v hu hv g => geq_eq a u v c hu hv g) x y (hx.1.trans hy.1.symm) hx.2 hy.2 h
  | .sl _, _, _, c, _, _, _ => by cases c
end Go.Ev
/- Counts, in plain Lean. -/
set_option linter.unusedVariables false
set_option linter.unusedSimpArgs false
namespace Go.Ev
/-- A row gone through, place by place: what is behind place i is still to be turned. -/
def restF (n : Nat) (f : Nat → Int → Int) (i : Nat) (o : List Int) : List Int := (List.range n).map fun j => bif Nat.blt j i then o.getD j 0 else f j (o.getD j 0)
theorem blt_true {j i : Nat} (h : j < i) : Nat.blt j i = true := by rw [Nat.blt_eq]; exact h
theorem blt_false {j i : Nat} (h : ¬ j < i) : Nat.blt j i = false := by
  cases hb : Nat.blt j i with
  | false => rfl
  | true => rw [Nat.blt_eq] at hb; exact absurd hb h
theorem getD_set {o : List Int} {i j : Nat} {v : Int} (h : i < o.length) : (o.set i v).getD j 0 = if i = j then v else o.getD j 0 := by
  simp only [List.getD, List.getElem?_set]
  by_cases hij : i = j
  · subst hij; simp [h]
  · simp [hij]
theorem restF_step {n : Nat} {f : Nat → Int → Int} {i : Nat} {o : List Int} (ho : o.length = n) (hi : i < n) : restF n f (i + 1) (o.set i (f i (o.getD i 0))) = restF n f i o := by
  unfold restF
  refine List.map_congr_left fun j hj => ?_
  rw [getD_set (by omega)]
  by_cases h1 : j < i
  · rw [blt_true h1, blt_true (by omega), if_neg (by omega)]
  · by_cases h2 : i = j
    · subst h2
      rw [blt_true (by omega), blt_false (by omega), if_pos rfl]; rfl
    · rw [blt_false h1, blt_false (by omega), if_neg h2]
theorem restF_end {n : Nat} {f : Nat → Int → Int} {o : List Int} (ho : o.length = n) : restF n f n o = o := by
  unfold restF
  refine List.ext_getElem (by simp [ho]) fun j h1 h2 => ?_
  have : j < n := by rw [ho] at h2; exact h2
  simp [blt_true this, List.getD, h2]
theorem restF_get {n : Nat} {f : Nat → Int → Int} {o : List Int} {j : Nat} (hj : j < n) : (restF n f 0 o).getD j 0 = f j (o.getD j 0) := by
  unfold restF
  simp [List.getD, hj, blt_false (Nat.not_lt_zero j)]
theorem restF_len {n : Nat} {f : Nat → Int → Int} {i : Nat} {o : List Int} : (restF n f i o).length = n := by simp [restF]
theorem list_ext {n : Nat} {a b : List Int} (ha : a.length = n) (hb : b.length = n) (h : ∀ j, j < n → a.getD j 0 = b.getD j 0) : a = b := by
  refine List.ext_getElem (by omega) fun j h1 h2 => ?_
  have := h j (by omega)
  simpa [List.getD, h1, h2] using this
theorem set_same {o : List Int} {i : Nat} (h : i < o.length) : o.set i (o.getD i 0) = o :=
  list_ext (n := o.length) (by simp) rfl fun j hj => by
    rw [getD_set h]
    split
    · rename_i e; rw [e]
    · rfl
/-- A count, and n more. -/
def satF (a n : Int) : Int := bif bif bif decide (n ≤ 0) then true else decide (a < 0) then true else decide (a > (1152921504606846976 : Int)) then a else a + min n ((1152921504606846976 : Int) - a)
def inF (w : Int) : Bool := bif decide (w < 0) then false else decide (w < 8)
def caddF (l : List Int) (w n : Int) : List Int := bif inF w then l.set w.toNat (satF (l.getD w.toNat 0) n) else l
def cgetF (l : List Int) (w : Int) : Int := bif inF w then l.getD w.toNat 0 else 0
def plusF (o x : List Int) : List Int := restF 8 (fun j v => satF v (x.getD j 0)) 0 o
def csumF (l : List (List Int)) : List Int := l.foldl plusF (List.replicate 8 0)
def difB (old now : List Int) (j : Nat) : Bool := bif decide (old.getD j 0 ≥ 0) then decide (now.getD j 0 > old.getD j 0) else false
def cdiffF (old now : List Int) : List Int := restF 8 (fun j v => bif difB old now j then now.getD j 0 - old.getD j 0 else v) 0 (List.replicate 8 0)
def wordsL : List (List UInt8) := [[102, 114, 97, 109, 101, 115], [98, 97, 100], [111, 108, 100], [104, 101, 114, 101], [111, 110], [116, 116, 108], [110, 111, 110, 101], [114, 101, 115, 101, 116]]
def digF (n : Int) : List UInt8 := bif decide (n < 0) then [45] else natT n.toNat
def pieceF (i : Nat) (n : Int) : List UInt8 :=
  bif n == 0 then [] else ((wordsL.getD i [] ++ [32]) ++ digF n) ++ [10]
def textK (l : List Int) : Nat → List UInt8
  | 0 => []
  | k + 1 => pieceF (7 - k) (l.getD (7 - k) 0) ++ textK l k
def ctextF (l : List Int) : List UInt8 := textK l 8
theorem digF_len (n : Int) : (digF n).length ≤ 20 := by
  unfold digF natT
  have h2 := digN_len 20 n.toNat
  cases decide (n < 0) <;> simp <;> omega
theorem words_len (i : Nat) : (wordsL.getD i []).length ≤ 6 := by
  match i with
  | 0 | 1 | 2 | 3 | 4 | 5 | 6 | 7 => decide
  | i + 8 => simp [wordsL, List.getD]
theorem pieceF_len (i : Nat) (n : Int) : (pieceF i n).length ≤ 28 := by
  unfold pieceF
  have h1 := words_len i
  have h2 := digF_len n
  cases n == 0 with
  | true => simp
  | false => simp only [cond_false, List.length_append, List.length_cons, List.length_nil]; omega
theorem itoa_pos {n : Int} (h : 0 < n) : itoaF n = digF n := by
  unfold itoaF digF
  have : decide (n < 0) = false := by simp; omega
  rw [this]; rfl
theorem satF_id {a n : Int} (h : n ≤ 0 ∨ a < 0 ∨ a > (1152921504606846976 : Int)) : satF a n = a := by
  unfold satF
  have : (bif bif decide (n ≤ 0) then true else decide (a < 0) then true else decide (a > (1152921504606846976 : Int))) = true := by
    rcases h with h | h | h
    · simp [h]
    · cases decide (n ≤ 0) <;> simp [h]
    · cases decide (n ≤ 0) <;> cases decide (a < 0) <;> simp [h]
  rw [this]; rfl
theorem satF_go {a n : Int} (h1 : 0 < n) (h2 : 0 ≤ a) (h3 : a ≤ (1152921504606846976 : Int)) : satF a n = a + min n ((1152921504606846976 : Int) - a) := by
  unfold satF
  have e1 : decide (n ≤ 0) = false := by simp; omega
  have e2 : decide (a < 0) = false := by simp; omega
  have e3 : decide (a > (1152921504606846976 : Int)) = false := by simp; omega
  rw [e1, e2, e3]; rfl
theorem sat_stop {v n : Int} (h : (bif bif decide (n ≤ 0) then true else decide (v < 0) then true else decide (v > (1152921504606846976 : Int))) = true) : satF v n = v := by
  unfold satF; rw [h]; rfl
theorem sat_neg {v n : Int} (h : (bif decide (n ≤ 0) then true else decide (v < 0)) = true) : satF v n = v := by
  unfold satF; rw [h]; rfl
theorem sat_pos {v n : Int} (h : (bif decide (n ≤ 0) then true else decide (v < 0)) = false) : 0 < n ∧ 0 ≤ v := by
  cases h1 : decide (n ≤ 0) with
  | true => rw [h1] at h; cases h
  | false =>
    rw [h1] at h
    have h1' := of_decide_eq_false h1
    have h2' : ¬ v < 0 := of_decide_eq_false h
    omega
theorem cadd_at {o : List Int} {i n : Int} (h0 : 0 ≤ i) (h1 : i < 8) : caddF o i n = o.set i.toNat (satF (o.getD i.toNat 0) n) := by
  unfold caddF inF
  have e1 : decide (i < 0) = false := by simp; omega
  have e2 : decide (i < 8) = true := by simp; omega
  rw [e1, e2]; rfl
theorem diff_at {o old now : List Int} {i : Nat} (ho : o.length = 8) (hi : i < 8) (hn : IntKind.i64.has (now.getD i 0)) :
    (bif difB old now i then o.set i (IntKind.wrap IntKind.i64 (now.getD i 0 - old.getD i 0)) else o) = o.set i (bif difB old now i then now.getD i 0 - old.getD i 0 else o.getD i 0) := by
  rw [has_i64] at hn
  cases h : difB old now i with
  | false =>
    show o = o.set i (o.getD i 0)
    rw [set_same (by omega)]
  | true =>
    unfold difB at h
    cases h1 : decide (old.getD i 0 ≥ 0) with
    | false => rw [h1] at h; cases h
    | true =>
      rw [h1] at h
      have h1' := of_decide_eq_true h1
      have h2' : now.getD i 0 > old.getD i 0 := of_decide_eq_true h
      simp only [cond_true]
      rw [i64_id (by omega) (by omega)]
theorem restF_all {n : Nat} {f : Nat → Int → Int} {i : Nat} {o : List Int} (ho : o.length = n) (hi : n ≤ i) : restF n f i o = o := by
  unfold restF
  refine List.ext_getElem (by simp [ho]) fun j h1 h2 => ?_
  have : j < i := by omega
  simp [blt_true this, List.getD, h2]
theorem drop_row {l : List (List Int)} {i : Int} (d : List Int) (h0 : 0 ≤ i) (h1 : i < l.length) : l.drop i.toNat = l.getD i.toNat d :: l.drop (i + 1).toNat := by
  have hlt : i.toNat < l.length := by omega
  rw [List.drop_eq_getElem_cons hlt, show (i + 1).toNat = i.toNat + 1 by omega]
  simp [List.getD, hlt]
theorem dig_one {x : Int} (h0 : 0 ≤ x) (h1 : x < 10) : bytesToStr [IntKind.wrap IntKind.u8 (IntKind.wrap IntKind.i64 ((48 : Int) + x))] = digF x := by
  rw [show IntKind.wrap IntKind.i64 ((48 : Int) + x) = 48 + x from i64_id (by omega) (by omega), show IntKind.wrap IntKind.u8 ((48 : Int) + x) = 48 + x from u8_id (by omega) (by omega)]
  unfold digF natT
  have e : decide (x < 0) = false := by simp; omega
  have e2 : Nat.blt x.toNat 10 = true := blt_true (by omega)
  rw [e]
  show _ = (bif Nat.blt x.toNat 10 then _ else _)
  rw [e2]
  show [UInt8.ofNat (48 + x).toNat] = [UInt8.ofNat (48 + x.toNat)]
  rw [show (48 + x).toNat = 48 + x.toNat by omega]
theorem dig_more {x : Int} (h0 : ¬ x < 10) (h1 : x ≤ 9223372036854775807) : digF (IntKind.wrap IntKind.i64 (Int.tdiv x (10 : Int))) ++ bytesToStr [IntKind.wrap IntKind.u8 (IntKind.wrap IntKind.i64 ((48 : Int) + Int.tmod x (10 : Int)))] = digF x := by
  rw [Int.tdiv_eq_ediv_of_nonneg (by omega), Int.tmod_eq_emod_of_nonneg (by omega)]
  rw [show IntKind.wrap IntKind.i64 (x / 10) = x / 10 from i64_id (by omega) (by omega), show IntKind.wrap IntKind.i64 ((48 : Int) + x % 10) = 48 + x % 10 from i64_id (by omega) (by omega), show IntKind.wrap IntKind.u8 ((48 : Int) + x % 10) = 48 + x % 10 from u8_id (by omega) (by omega)]
  unfold digF natT
  have e : decide (x < 0) = false := by simp; omega
  have e1 : decide (x / 10 < 0) = false := by simp; omega
  have e2 : Nat.blt x.toNat 10 = false := blt_false (by omega)
  rw [e, e1]
  show digN 20 (x / 10).toNat ++ _ = (bif Nat.blt x.toNat 10 then _ else digN 19 (x.toNat / 10) ++ [UInt8.ofNat (48 + x.toNat % 10)])
  rw [e2]
  simp only [cond_false]
  rw [show (x / 10).toNat = x.toNat / 10 by omega, digN_more 19 (x.toNat / 10) (by omega) (by omega)]
  show _ ++ [UInt8.ofNat (48 + x % 10).toNat] = _
  rw [show (48 + x % 10).toNat = 48 + x.toNat % 10 by omega]
theorem textK_len (l : List Int) : ∀ k, (textK l k).length ≤ 28 * k
  | 0 => Nat.le_refl _
  | k + 1 => by
    have := textK_len l k
    have h2 := pieceF_len (7 - k) (l.getD (7 - k) 0)
    simp only [textK, List.length_append]
    omega
theorem piece_eq (out : List UInt8) (i : Nat) (v : Int) : (bif decide (v > 0) then out ++ (((wordsL.getD i [] ++ [32]) ++ itoaF v) ++ [10]) else bif decide (v < 0) then out ++ (wordsL.getD i [] ++ [32, 45, 10]) else out) = out ++ pieceF i v := by
  unfold pieceF
  by_cases hp : v > 0
  · have e1 : decide (v > 0) = true := by simpa using hp
    have e2 : (v == 0) = false := by simp; omega
    rw [e1, e2, itoa_pos hp]; rfl
  · have e1 : decide (v > 0) = false := by simpa using hp
    rw [e1]
    by_cases hn : v < 0
    · have e2 : decide (v < 0) = true := by simpa using hn
      have e3 : (v == 0) = false := by simp; omega
      rw [e2, e3]
      unfold digF
      rw [e2]
      simp
    · have e2 : decide (v < 0) = false := by simpa using hn
      have e3 : (v == 0) = true := by simp; omega
      rw [e2, e3]
      simp
theorem rpiece_eq (out : List UInt8) (i : Nat) (v : Int) : (bif v != 0 then out ++ (((wordsL.getD i [] ++ [32]) ++ digF v) ++ [10]) else out) = out ++ pieceF i v := by
  unfold pieceF
  cases h : v == 0 with
  | true => simp [bne, h]
  | false => simp [bne, h]
theorem text_step (out : List UInt8) (l : List Int) {i : Int} (h0 : 0 ≤ i) (h1 : i < 8) : (out ++ pieceF i.toNat (l.getD i.toNat 0)) ++ textK l (8 - (i + 1).toNat) = out ++ textK l (8 - i.toNat) := by
  have hk : 8 - i.toNat = (7 - i.toNat) + 1 := by omega
  rw [hk, show 8 - (i + 1).toNat = 7 - i.toNat by omega, List.append_assoc]
  show _ = out ++ (pieceF (7 - (7 - i.toNat)) (l.getD (7 - (7 - i.toNat)) 0) ++ textK l (7 - i.toNat))
  rw [show 7 - (7 - i.toNat) = i.toNat by omega]
theorem satF_ge {a n : Int} (h0 : 0 ≤ a) (h1 : a ≤ 1152921504606846976) : a ≤ satF a n ∧ satF a n ≤ 1152921504606846976 := by
  by_cases hn : n ≤ 0
  · rw [satF_id (.inl hn)]; omega
  · rw [satF_go (by omega) h0 h1]; omega
theorem caddF_len {l : List Int} {w n : Int} (h : l.length = 8) : (caddF l w n).length = 8 := by
  unfold caddF
  cases inF w with
  | true => simp [h]
  | false => exact h
theorem caddF_get {l : List Int} {w n : Int} (h : l.length = 8) (hl : ∀ j, 0 ≤ l.getD j 0 ∧ l.getD j 0 ≤ 1152921504606846976) (j : Nat) : l.getD j 0 ≤ (caddF l w n).getD j 0 ∧ (caddF l w n).getD j 0 ≤ 1152921504606846976 := by
  unfold caddF
  cases hi : inF w with
  | false => exact ⟨Int.le_refl _, (hl j).2⟩
  | true =>
    have hw : w.toNat < l.length := by
      unfold inF at hi
      cases h1 : decide (w < 0) with
      | true => rw [h1] at hi; cases hi
      | false =>
        rw [h1] at hi
        have h2 : w < 8 := of_decide_eq_true hi
        have := of_decide_eq_false h1
        omega
    simp only [cond_true]
    rw [getD_set hw]
    by_cases hj : w.toNat = j
    · rw [if_pos hj, ← hj]
      exact satF_ge (hl _).1 (hl _).2
    · rw [if_neg hj]
      exact ⟨Int.le_refl _, (hl j).2⟩
/-- By how much counts rose, added again. -/
theorem sum_diff {a b : List Int} (ha : a.length = 8) (hb : b.length = 8) (h : ∀ j, 0 ≤ a.getD j 0 ∧ a.getD j 0 ≤ b.getD j 0 ∧ b.getD j 0 ≤ 1152921504606846976) : csumF [a, cdiffF a b] = b := by
  show plusF (plusF (List.replicate 8 0) a) (cdiffF a b) = b
  refine list_ext (n := 8) restF_len hb fun j hj => ?_
  unfold plusF
  rw [restF_get hj, restF_get hj]
  obtain ⟨h1, h2, h3⟩ := h j
  have hz : (List.replicate 8 (0 : Int)).getD j 0 = 0 := by rw [List.getD_eq_getElem?_getD, List.getElem?_replicate, if_pos hj]; rfl
  rw [hz]
  have e1 : satF 0 (a.getD j 0) = a.getD j 0 := by
    by_cases h4 : a.getD j 0 ≤ 0
    · rw [satF_id (.inl h4)]; omega
    · rw [satF_go (by omega) (by omega) (by omega)]; omega
  rw [e1]
  have e2 : (cdiffF a b).getD j 0 = b.getD j 0 - a.getD j 0 := by
    unfold cdiffF
    rw [restF_get hj, hz]
    by_cases h4 : b.getD j 0 > a.getD j 0
    · have : difB a b j = true := by
        unfold difB
        have e1 : decide (a.getD j 0 ≥ 0) = true := decide_eq_true h1
        have e2 : decide (b.getD j 0 > a.getD j 0) = true := decide_eq_true h4
        rw [e1, e2]; rfl
      rw [this]; rfl
    · have : difB a b j = false := by
        unfold difB
        have e2 : decide (b.getD j 0 > a.getD j 0) = false := decide_eq_false h4
        rw [e2]
        cases decide (a.getD j 0 ≥ 0) <;> rfl
      rw [this]
      simp only [cond_false]
      omega
  rw [e2]
  by_cases h4 : b.getD j 0 - a.getD j 0 ≤ 0
  · rw [satF_id (.inl h4)]; omega
  · rw [satF_go (by omega) h1 (by omega)]; omega
theorem or_false' {a b : Bool} (h : (bif a then true else b) = false) : a = false ∧ b = false := by
  cases a <;> simp_all
theorem or_true' {a b : Bool} (h : (bif a then true else b) = true) : a = true ∨ b = true := by
  cases a <;> simp_all
theorem sat_more {v n : Int} (h : (bif bif decide (n ≤ 0) then true else decide (v < 0) then true else decide (v > (1152921504606846976 : Int))) = false) :
    IntKind.wrap IntKind.i64 (v + if IntKind.wrap IntKind.i64 ((1152921504606846976 : Int) - v) < n then IntKind.wrap IntKind.i64 ((1152921504606846976 : Int) - v) else n) = satF v n := by
  obtain ⟨h1, h2⟩ := or_false' h
  obtain ⟨h3, h4⟩ := sat_pos h1
  have h5 : ¬ v > 1152921504606846976 := of_decide_eq_false h2
  rw [satF_go h3 h4 (by omega), show IntKind.wrap IntKind.i64 ((1152921504606846976 : Int) - v) = 1152921504606846976 - v from i64_id (by omega) (by omega)]
  have e2 : (if 1152921504606846976 - v < n then 1152921504606846976 - v else n) = min n (1152921504606846976 - v) := by
    by_cases hh : 1152921504606846976 - v < n
    · rw [if_pos hh]; omega
    · rw [if_neg hh]; omega
  rw [e2, i64_id (by omega) (by omega)]
theorem sat_full {v n : Int} (hv : v ≤ 9223372036854775807) (h : (bif decide (n ≤ 0) then true else decide (v < 0)) = false) (h4 : (bif decide (v ≥ (1152921504606846976 : Int)) then true else decide (n ≥ IntKind.wrap IntKind.i64 ((1152921504606846976 : Int) - v))) = true) :
    (if v < (1152921504606846976 : Int) then (1152921504606846976 : Int) else v) = satF v n := by
  obtain ⟨h3, h5⟩ := sat_pos h
  rw [show IntKind.wrap IntKind.i64 ((1152921504606846976 : Int) - v) = 1152921504606846976 - v from i64_id (by omega) (by omega)] at h4
  rcases or_true' h4 with h6 | h6
  · have h6' := of_decide_eq_true h6
    rw [if_neg (by omega)]
    by_cases h7 : v = 1152921504606846976
    · rw [satF_go h3 h5 (by omega)]; omega
    · rw [satF_id (.inr (.inr (by omega)))]
  · have h6' := of_decide_eq_true h6
    by_cases h7 : v < 1152921504606846976
    · rw [if_pos h7, satF_go h3 h5 (by omega)]; omega
    · rw [if_neg h7]
      by_cases h8 : v = 1152921504606846976
      · rw [satF_go h3 h5 (by omega)]; omega
      · rw [satF_id (.inr (.inr (by omega)))]
theorem sat_room {v n : Int} (hv : v ≤ 9223372036854775807) (h : (bif decide (n ≤ 0) then true else decide (v < 0)) = false) (h4 : (bif decide (v ≥ (1152921504606846976 : Int)) then true else decide (n ≥ IntKind.wrap IntKind.i64 ((1152921504606846976 : Int) - v))) = false) :
    IntKind.wrap IntKind.i64 (v + n) = satF v n := by
  obtain ⟨h3, h5⟩ := sat_pos h
  rw [show IntKind.wrap IntKind.i64 ((1152921504606846976 : Int) - v) = 1152921504606846976 - v from i64_id (by omega) (by omega)] at h4
  obtain ⟨h6, h7⟩ := or_false' h4
  have h6' := of_decide_eq_false h6
  have h7' := of_decide_eq_false h7
  rw [satF_go h3 h5 (by omega), i64_id (by omega) (by omega)]
  omega
end Go.Ev
