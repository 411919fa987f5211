/- What is said of links answers true. -/
import Derived.Test.YtohodbfoeejbjaaDoorTextCostsSound7

set_option linter.unusedVariables false
set_option linter.unusedSimpArgs false
namespace Go.Ev.D
open Go.Proofs
def awake14C : Ctr := { args := [], res := [.bool], pre := none, fn := fun (x : Unit) => true }
def awake14G : List (Nat × Ctr) := [(42, csetC), (48, ofC), (46, cutC), (44, upC), (50, soundC), (52, costtC)]
theorem awake14_tree : (fun x : Unit => evFn (mkC tys awake14G [] true) (fnOf Tryd.prog 54) (resL awake14C.args x) awake14C.res) =
  (fun x => Tree.leaf true) := by kernel_rfl
theorem awake14_ok : CtrOK Tryd.prog 54 awake14C :=
  fun_okX true (G := awake14G) (Λ := []) tysOK (ctrs_cons cset_ok (ctrs_cons of_ok (ctrs_cons cut_ok (ctrs_cons up_ok (ctrs_cons sound_ok (ctrs_cons costt_ok ctrs_nil)))))) mixed (by kernel_rfl) (by kernel_rfl) (by kernel_rfl) (by kernel_rfl) lp_nil fun (x : Unit) hw _ => by
    rw [congrFun awake14_tree x]
    exact holds_val (d := awake14C.fn x) (by kernel_rfl) (by simp [Tree.safe])
def cossayG : List (Nat × Ctr) := [(42, csetC), (43, rcsetC), (44, upC), (45, rupC), (46, cutC), (47, rcutC), (48, ofC), (49, rofC), (50, soundC), (51, rsoundC), (52, costtC), (53, rcosttC), (54, awake14C)]
theorem cossayG_ok : CtrsOK Tryd.prog (fun f => lk f cossayG) := (ctrs_cons cset_ok (ctrs_cons rcset_ok (ctrs_cons up_ok (ctrs_cons rup_ok (ctrs_cons cut_ok (ctrs_cons rcut_ok (ctrs_cons of_ok (ctrs_cons rof_ok (ctrs_cons sound_ok (ctrs_cons rsound_ok (ctrs_cons costt_ok (ctrs_cons rcostt_ok (ctrs_cons awake14_ok ctrs_nil)))))))))))))
def cossayC : Ctr := { args := [gCosts, .int .i64, .int .u32], res := [.bool], pre := some (smallD [gCosts, .int .i64, .int .u32]), fn := fun _ => true }
def cossayD : LoopD where
  prom := []
  ts := [(6, .val .bool), (11, .val (.sl (.int .i64))), (12, .val (.sl (.int .i64))), (38, .val (.int .i64)), (39, .val (.int .i64))]
  bs := []
  pre := fun (x : (Bool × List Int × List Int × Int × Int × Unit) × Unit) => 0 ≤ x.1.2.2.2.2.1 ∧ x.1.2.2.2.2.1 ≤ x.1.2.2.2.1 ∧ x.1.2.2.2.1 = x.1.2.1.length ∧ x.1.2.2.2.1 ≤ 16 ∧ x.1.2.2.1 = x.1.2.1
  out := fun (x : (Bool × List Int × List Int × Int × Int × Unit) × Unit) => .leaf (.exit 0, ((x.1.1, x.1.2.1, x.1.2.2.1, x.1.2.2.2.1, x.1.2.2.2.1, ()), ()))
theorem cossay_round : (fun x : (Bool × List Int × List Int × Int × Int × Unit) × Unit => roundOf (mkC tys cossayG [(0, cossayD.spec)]) cossayD (loopB 0 (bodyOf (fnOf Tryd.prog 7))) x) =
  (fun x =>
    Tree.br (decide (x.1.2.2.2.2.1 < x.1.2.2.2.1))
      (Tree.need ((0 : Int) ≤ x.1.2.2.2.2.1 ∧ x.1.2.2.2.2.1 < (↑(List.length x.1.2.1) : Int))
        (Tree.need ((0 : Int) ≤ x.1.2.2.2.2.1 ∧ x.1.2.2.2.2.1 < (↑(List.length x.1.2.2.1) : Int))
          (Tree.br (List.getD x.1.2.1 (Int.toNat x.1.2.2.2.2.1) (0 : Int) != List.getD x.1.2.2.1 (Int.toNat x.1.2.2.2.2.1) (0 : Int))
            (Tree.leaf (Ex.ret, some ((false, x.1.2.1, x.1.2.2.1, x.1.2.2.2.1, x.1.2.2.2.2.1, ()), ())))
            (Tree.leaf (Ex.normal, some ((x.1.1, x.1.2.1, x.1.2.2.1, x.1.2.2.2.1, IntKind.wrap IntKind.i64 (x.1.2.2.2.2.1 + (1 : Int)), ()), ()))))))
      (Tree.leaf (Ex.exit (0 : Nat), some ((x.1.1, x.1.2.1, x.1.2.2.1, x.1.2.2.2.1, x.1.2.2.2.2.1, ()), ())))) := by kernel_rfl
theorem cossay_loop : LoopOK (mkC tys cossayG [(0, cossayD.spec)]) cossayD.spec (loopB 0 (bodyOf (fnOf Tryd.prog 7))) :=
  loopD_ok1 (fun _ => rfl) (fun x => congrFun cossay_round x) (fun (x : (Bool × List Int × List Int × Int × Int × Unit) × Unit) => (x.1.2.2.2.1 - x.1.2.2.2.2.1).toNat) fun (x : (Bool × List Int × List Int × Int × Int × Unit) × Unit) hp => by
    obtain ⟨⟨r, l, k, n, i, ⟨⟩⟩, ⟨⟩⟩ := x
    obtain ⟨h1, h2, h3, h4, h5⟩ := hp
    simp only at h1 h2 h3 h4 h5
    subst h5
    simp only [Tree.holds]
    refine ⟨fun h => ?_, fun h => ?_⟩
    · have h' : i < n := by simpa using h
      have e : IntKind.i64.wrap (i + 1) = i + 1 := i64_id (by omega) (by omega)
      refine ⟨⟨h1, by omega⟩, ⟨h1, by omega⟩, fun h7 => ?_, fun h7 => ⟨_, rfl, ⟨?_, ?_, h3, h4, rfl⟩, ?_, rfl⟩⟩
      · exfalso; simp at h7
      · show 0 ≤ IntKind.i64.wrap (i + 1); omega
      · show IntKind.i64.wrap (i + 1) ≤ n; omega
      · show (n - IntKind.i64.wrap (i + 1)).toNat < (n - i).toNat; omega
    · have h' : ¬ i < n := by simpa using h
      have hi : i = n := by omega
      subst hi
      exact ⟨_, rfl, rfl⟩
theorem cossay_tree : (fun x : DCosts × Int × Int => evFn (mkC tys cossayG [(0, cossayD.spec)]) (fnOf Tryd.prog 7) (resL cossayC.args x) cossayC.res) =
  (fun x =>
    Tree.br ((↑(List.length (elemsF x.1.1 (16 : Nat))) : Int) != (↑(List.length (elemsF x.1.1 (16 : Nat))) : Int)) (Tree.leaf false)
      (Tree.need
        ((0 : Int) ≤ (0 : Int) ∧
          (0 : Int) ≤ (↑(List.length (elemsF x.1.1 (16 : Nat))) : Int) ∧
            (↑(List.length (elemsF x.1.1 (16 : Nat))) : Int) = (↑(List.length (elemsF x.1.1 (16 : Nat))) : Int) ∧
              (↑(List.length (elemsF x.1.1 (16 : Nat))) : Int) ≤ (16 : Int) ∧ elemsF x.1.1 (16 : Nat) = elemsF x.1.1 (16 : Nat))
        (Tree.leaf
          (bif
              bif
                  bif
                      bif
                          bif
                              bif geq (GTy.prod (GTy.int IntKind.i64) (GTy.arr (16 : Nat) (GTy.int IntKind.u32))) (csetF x.1 x.2.1 x.2.2).1 (csetF x.1 x.2.1 x.2.2).1 then
                                (csetF x.1 x.2.1 x.2.2).2 == (csetF x.1 x.2.1 x.2.2).2
                              else false then
                            geq (GTy.prod (GTy.int IntKind.i64) (GTy.arr (16 : Nat) (GTy.int IntKind.u32))) (cutF x.1 x.2.1) (cutF x.1 x.2.1)
                          else false then
                        ofF x.1 x.2.1 == ofF x.1 x.2.1
                      else false then
                    geq GTy.bool (soundF x.1) (soundF x.1)
                  else false then
                linksT x.1 == linksT x.1
              else false then
            true
          else false)))) := by kernel_rfl
theorem cossay_ok : CtrOK Tryd.prog 7 cossayC :=
  fun_ok (G := cossayG) (Λ := [(0, cossayD.spec)]) tysOK cossayG_ok mixed (by kernel_rfl) (by kernel_rfl) (by kernel_rfl) (by kernel_rfl) (lp_cons cossay_loop lp_nil) fun (x : DCosts × Int × Int) hw _ => by
    rw [congrFun cossay_tree x]
    have hl := elems_len x.1.1 16
    have e : cossayC.fn x = true := rfl
    rw [e]
    simp only [Tree.holds]
    refine ⟨fun h => ?_, fun _ => ⟨⟨by omega, by omega, trivial, by omega, trivial⟩, ?_⟩⟩
    · exfalso; simp at h
    · rw [geq_self gCosts _ rfl, geq_self gCosts _ rfl, geq_self .bool _ rfl]
      simp
      rfl
def cossndG : List (Nat × Ctr) := [(54, awake14C), (46, cutC), (48, ofC), (42, csetC), (50, soundC)]
theorem cossndG_ok : CtrsOK Tryd.prog (fun f => lk f cossndG) := (ctrs_cons awake14_ok (ctrs_cons cut_ok (ctrs_cons of_ok (ctrs_cons cset_ok (ctrs_cons sound_ok ctrs_nil)))))
abbrev DOp := Bool × Int × Int
def opF (c : DCosts) (o : DOp) : DCosts := bif o.1 then cutF c o.2.1 else (csetF c o.2.1 o.2.2).1
abbrev gOp : GTy := .prod .bool (.prod (.int .i64) (.int .u32))
def cossndC : Ctr := { args := [.sl gOp], res := [.bool], pre := some (smallD [.sl gOp]), fn := fun _ => true }
def cossndD : LoopD where
  prom := []
  ts := [(2, .val .bool), (3, .ptr 3 gCosts), (13, .val (.sl gOp)), (14, .val (.int .i64)), (15, .val (.int .i64))]
  bs := [(3, .var gCosts)]
  pre := fun (x : (Bool × List DOp × Int × Int × Unit) × (DCosts × Unit)) => 0 ≤ x.1.2.2.2.1 ∧ x.1.2.2.2.1 ≤ x.1.2.2.1 ∧ x.1.2.2.1 = x.1.2.1.length ∧ x.1.2.2.1 ≤ 200 ∧ x.2.1.2.length = 16 ∧ soundF x.2.1 = true
  out := fun (x : (Bool × List DOp × Int × Int × Unit) × (DCosts × Unit)) => .leaf (.exit 0, ((x.1.1, x.1.2.1, x.1.2.2.1, x.1.2.2.1, ()), ((x.1.2.1.drop x.1.2.2.2.1.toNat).foldl opF x.2.1, ())))
theorem cossnd_round : (fun x : (Bool × List DOp × Int × Int × Unit) × (DCosts × Unit) => roundOf (mkC tys cossndG [(0, cossndD.spec)]) cossndD (loopB 0 (bodyOf (fnOf Tryd.prog 8))) x) =
  (fun x =>
    Tree.br (decide (x.1.2.2.2.1 < x.1.2.2.1))
      (Tree.need ((0 : Int) ≤ x.1.2.2.2.1 ∧ x.1.2.2.2.1 < (↑(List.length x.1.2.1) : Int))
        (Tree.br (List.getD x.1.2.1 (Int.toNat x.1.2.2.2.1) (false, (0 : Int), (0 : Int))).1
          (Tree.br
            (ofF (cutF x.2.1 (List.getD x.1.2.1 (Int.toNat x.1.2.2.2.1) (false, (0 : Int), (0 : Int))).2.1) (List.getD x.1.2.1 (Int.toNat x.1.2.2.2.1) (false, (0 : Int), (0 : Int))).2.1 !=
              (4294967295 : Int))
            (Tree.leaf (Ex.ret, some ((false, x.1.2.1, x.1.2.2.1, x.1.2.2.2.1, ()), cutF x.2.1 (List.getD x.1.2.1 (Int.toNat x.1.2.2.2.1) (false, (0 : Int), (0 : Int))).2.1, ())))
            (Tree.br (!soundF (cutF x.2.1 (List.getD x.1.2.1 (Int.toNat x.1.2.2.2.1) (false, (0 : Int), (0 : Int))).2.1))
              (Tree.leaf (Ex.ret, some ((false, x.1.2.1, x.1.2.2.1, x.1.2.2.2.1, ()), cutF x.2.1 (List.getD x.1.2.1 (Int.toNat x.1.2.2.2.1) (false, (0 : Int), (0 : Int))).2.1, ())))
              (Tree.leaf
                (Ex.normal,
                  some
                    ((x.1.1, x.1.2.1, x.1.2.2.1, IntKind.wrap IntKind.i64 (x.1.2.2.2.1 + (1 : Int)), ()), cutF x.2.1 (List.getD x.1.2.1 (Int.toNat x.1.2.2.2.1) (false, (0 : Int), (0 : Int))).2.1,
                      ())))))
          (Tree.br
            (bif
                bif
                    (csetF x.2.1 (List.getD x.1.2.1 (Int.toNat x.1.2.2.2.1) (false, (0 : Int), (0 : Int))).2.1 (List.getD x.1.2.1 (Int.toNat x.1.2.2.2.1) (false, (0 : Int), (0 : Int))).2.2).2 ==
                      (0 : Int) then
                  ofF (csetF x.2.1 (List.getD x.1.2.1 (Int.toNat x.1.2.2.2.1) (false, (0 : Int), (0 : Int))).2.1 (List.getD x.1.2.1 (Int.toNat x.1.2.2.2.1) (false, (0 : Int), (0 : Int))).2.2).1
                      (List.getD x.1.2.1 (Int.toNat x.1.2.2.2.1) (false, (0 : Int), (0 : Int))).2.1 !=
                    (List.getD x.1.2.1 (Int.toNat x.1.2.2.2.1) (false, (0 : Int), (0 : Int))).2.2
                else false then
              true
            else
              bif
                  (csetF x.2.1 (List.getD x.1.2.1 (Int.toNat x.1.2.2.2.1) (false, (0 : Int), (0 : Int))).2.1 (List.getD x.1.2.1 (Int.toNat x.1.2.2.2.1) (false, (0 : Int), (0 : Int))).2.2).2 !=
                    (0 : Int) then
                !geq (GTy.prod (GTy.int IntKind.i64) (GTy.arr (16 : Nat) (GTy.int IntKind.u32)))
                    (csetF x.2.1 (List.getD x.1.2.1 (Int.toNat x.1.2.2.2.1) (false, (0 : Int), (0 : Int))).2.1 (List.getD x.1.2.1 (Int.toNat x.1.2.2.2.1) (false, (0 : Int), (0 : Int))).2.2).1 x.2.1
              else false)
            (Tree.leaf (Ex.ret, some ((false, x.1.2.1, x.1.2.2.1, x.1.2.2.2.1, ()), x.2.1, ())))
            (Tree.br (!soundF (csetF x.2.1 (List.getD x.1.2.1 (Int.toNat x.1.2.2.2.1) (false, (0 : Int), (0 : Int))).2.1 (List.getD x.1.2.1 (Int.toNat x.1.2.2.2.1) (false, (0 : Int), (0 : Int))).2.2).1)
              (Tree.leaf
                (Ex.ret,
                  some
                    ((false, x.1.2.1, x.1.2.2.1, x.1.2.2.2.1, ()),
                      (csetF x.2.1 (List.getD x.1.2.1 (Int.toNat x.1.2.2.2.1) (false, (0 : Int), (0 : Int))).2.1 (List.getD x.1.2.1 (Int.toNat x.1.2.2.2.1) (false, (0 : Int), (0 : Int))).2.2).1, ())))
              (Tree.leaf
                (Ex.normal,
                  some
                    ((x.1.1, x.1.2.1, x.1.2.2.1, IntKind.wrap IntKind.i64 (x.1.2.2.2.1 + (1 : Int)), ()),
                      (csetF x.2.1 (List.getD x.1.2.1 (Int.toNat x.1.2.2.2.1) (false, (0 : Int), (0 : Int))).2.1 (List.getD x.1.2.1 (Int.toNat x.1.2.2.2.1) (false, (0 : Int), (0 : Int))).2.2).1,
                      ())))))))
      (Tree.leaf (Ex.exit (0 : Nat), some ((x.1.1, x.1.2.1, x.1.2.2.1, x.1.2.2.2.1, ()), x.2.1, ())))) := by kernel_rfl
theorem cossnd_loop : LoopOK (mkC tys cossndG [(0, cossndD.spec)]) cossndD.spec (loopB 0 (bodyOf (fnOf Tryd.prog 8))) :=
  loopD_ok1 (fun _ => rfl) (fun x => congrFun cossnd_round x) (fun (x : (Bool × List DOp × Int × Int × Unit) × (DCosts × Unit)) => (x.1.2.2.1 - x.1.2.2.2.1).toNat) fun (x : (Bool × List DOp × Int × Int × Unit) × (DCosts × Unit)) hp => by
    obtain ⟨⟨r, l, n, i, ⟨⟩⟩, c, ⟨⟩⟩ := x
    obtain ⟨h1, h2, h3, h4, h5, h6⟩ := hp
    simp only at h1 h2 h3 h4 h5 h6
    simp only [Tree.holds]
    refine ⟨fun h => ?_, fun h => ?_⟩
    · have h' : i < n := by simpa using h
      have e : IntKind.i64.wrap (i + 1) = i + 1 := i64_id (by omega) (by omega)
      have hd := drop_step (l := l) ((false, 0, 0) : DOp) h1 (by omega)
      generalize l.getD i.toNat (false, 0, 0) = o at hd ⊢
      have hend : ∀ d, opF c o = d → soundF d = true ∧ d.2.length = 16 → (0 ≤ IntKind.i64.wrap (i + 1) ∧ IntKind.i64.wrap (i + 1) ≤ n ∧ n = l.length ∧ n ≤ 200 ∧ d.2.length = 16 ∧ soundF d = true) ∧ (n - IntKind.i64.wrap (i + 1)).toNat < (n - i).toNat ∧
          (Ex.exit 0, ((r, l, n, n, ()), ((l.drop (IntKind.i64.wrap (i + 1)).toNat).foldl opF d, ()))) = (Ex.exit 0, ((r, l, n, n, ()), ((l.drop i.toNat).foldl opF c, ()))) := by
        rintro d rfl ⟨q1, q2⟩
        rw [e, hd]
        exact ⟨⟨by omega, by omega, h3, h4, q2, q1⟩, by omega, rfl⟩
      refine ⟨⟨h1, by omega⟩, fun hc => ⟨fun hb => ?_, fun _ => ⟨fun hb => ?_, fun _ => ⟨_, rfl, hend _ ?_ ?_⟩⟩⟩, fun hc => ⟨fun hb => ?_, fun _ => ⟨fun hb => ?_, fun _ => ⟨_, rfl, hend _ ?_ ?_⟩⟩⟩⟩
      · exfalso; rw [(sound_cut h5 h6).2.2] at hb; cases hb
      · exfalso; rw [(sound_cut h5 h6).1] at hb; cases hb
      · unfold opF; rw [hc]; rfl
      · exact ⟨(sound_cut h5 h6).1, (sound_cut h5 h6).2.1⟩
      · exfalso
        have q := sound_set (n := o.2.1) (w := o.2.2) h5 h6
        cases hz : ((csetF c o.2.1 o.2.2).2 == 0) with
        | true =>
          rw [q.2.2 hz] at hb
          simp [bne, hz] at hb
        | false =>
          rw [set_err hz, geq_self gCosts _ rfl] at hb
          simp [bne, hz] at hb
      · exfalso; rw [(sound_set h5 h6).1] at hb; cases hb
      · unfold opF; rw [hc]; rfl
      · exact ⟨(sound_set h5 h6).1, (sound_set h5 h6).2.1⟩
    · have h' : ¬ i < n := by simpa using h
      have hi : i = n := by omega
      subst hi
      refine ⟨_, rfl, ?_⟩
      show (Ex.exit 0, ((r, l, i, i, ()), ((l.drop i.toNat).foldl opF c, ()))) = _
      rw [List.drop_eq_nil_of_le (by omega)]
      rfl
theorem cossnd_tree : (fun x : List DOp => evFn (mkC tys cossndG [(0, cossndD.spec)]) (fnOf Tryd.prog 8) (resL cossndC.args x) cossndC.res) =
  (fun x =>
    Tree.br (decide ((↑(List.length x) : Int) > (200 : Int))) (Tree.leaf true)
      (Tree.need
        ((0 : Int) ≤ (0 : Int) ∧
          (0 : Int) ≤ (↑(List.length x) : Int) ∧
            (↑(List.length x) : Int) = (↑(List.length x) : Int) ∧ (↑(List.length x) : Int) ≤ (200 : Int) ∧ (16 : Nat) = (16 : Nat) ∧ soundF ((0 : Int), List.replicate (16 : Nat) (0 : Int)) = true)
        (Tree.leaf true))) := by kernel_rfl
theorem cossnd_ok : CtrOK Tryd.prog 8 cossndC :=
  fun_ok (G := cossndG) (Λ := [(0, cossndD.spec)]) tysOK cossndG_ok mixed (by kernel_rfl) (by kernel_rfl) (by kernel_rfl) (by kernel_rfl) (lp_cons cossnd_loop lp_nil) fun (x : List DOp) hw _ => by
    rw [congrFun cossnd_tree x]
    have e : cossndC.fn x = true := rfl
    rw [e]
    simp only [Tree.holds]
    refine ⟨fun _ => rfl, fun h => ⟨⟨by omega, by omega, trivial, ?_, trivial, by kernel_rfl⟩, rfl⟩⟩
    have : ¬ (x.length : Int) > 200 := by simpa using h
    omega
end Go.Ev.D

