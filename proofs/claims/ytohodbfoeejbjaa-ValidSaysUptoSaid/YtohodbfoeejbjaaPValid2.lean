/- Configurations that may be. -/
import Derived.Test.YtohodbfoeejbjaaPValid
import Derived.Test.YtohodbfoeejbjaaEvValid2
set_option linter.unusedVariables false
set_option linter.unusedSimpArgs false
namespace Go.Ev.P
open Go.Proofs
def confC : Ctr := { args := [gConf], res := [.int .i64], pre := none, fn := fun (x : DConf) => confF x }
def confG : List (Nat × Ctr) := [(35, rightC), (80, soundC), (81, hasC), (82, rulesC)]
theorem conf_tree : (fun x : DConf => evFn (mkC tys confG []) (fnOf Try.prog 37) (resL confC.args x) confC.res) =
  (fun x =>
    Tree.br (bif !rightF x.1 then true else !soundF x.2.2) (Tree.leaf (1 : Int)) (Tree.br (hasF x.2.2.1 x.1) (Tree.leaf (10 : Int)) (Tree.br (!rulesF x.2.1) (Tree.leaf (3 : Int)) (Tree.leaf (0 : Int))))) := by kernel_rfl
theorem conf_ok : CtrOK Try.prog 37 confC :=
  fun_ok (G := confG) (Λ := []) tysOK (ctrs_cons right_ok (ctrs_cons sound_ok (ctrs_cons has_ok (ctrs_cons rules_ok ctrs_nil)))) mixed (by kernel_rfl) (by kernel_rfl) (by kernel_rfl) (by kernel_rfl) lp_nil fun (x : DConf) hw _ => by
    rw [congrFun conf_tree x]
    exact holds_val (d := confC.fn x) (by kernel_rfl) (by simp [Tree.safe])
def rconfC : Ctr := { args := [gConf], res := [.int .i64], pre := none, fn := fun (x : DConf) => confF x }
def rconfG : List (Nat × Ctr) := [(83, rrightC), (84, rsoundC), (85, rhasC), (86, rrulesC)]
theorem rconf_tree : (fun x : DConf => evFn (mkC tys rconfG []) (fnOf Try.prog 38) (resL rconfC.args x) rconfC.res) =
  (fun x =>
    Tree.br (bif !rightF x.1 then true else !soundF x.2.2) (Tree.leaf (1 : Int)) (Tree.br (hasF x.2.2.1 x.1) (Tree.leaf (10 : Int)) (Tree.br (!rulesF x.2.1) (Tree.leaf (3 : Int)) (Tree.leaf (0 : Int))))) := by kernel_rfl
theorem rconf_ok : CtrOK Try.prog 38 rconfC :=
  fun_ok (G := rconfG) (Λ := []) tysOK (ctrs_cons rright_ok (ctrs_cons rsound_ok (ctrs_cons rhas_ok (ctrs_cons rrules_ok ctrs_nil)))) mixed (by kernel_rfl) (by kernel_rfl) (by kernel_rfl) (by kernel_rfl) lp_nil fun (x : DConf) hw _ => by
    rw [congrFun rconf_tree x]
    exact holds_val (d := rconfC.fn x) (by kernel_rfl) (by simp [Tree.safe])
def pairC : Ctr := { args := [gConf, gConf], res := [.bool], pre := none, fn := fun (x : DConf × DConf) => cpairF x.1 x.2 }
def pairG : List (Nat × Ctr) := [(81, hasC)]
theorem pair_tree : (fun x : DConf × DConf => evFn (mkC tys pairG []) (fnOf Try.prog 39) (resL pairC.args x) pairC.res) =
  (fun x => Tree.leaf (bif bif x.1.1 != x.2.1 then hasF x.1.2.2.1 x.2.1 else false then hasF x.2.2.2.1 x.1.1 else false)) := by kernel_rfl
theorem pair_ok : CtrOK Try.prog 39 pairC :=
  fun_ok (G := pairG) (Λ := []) tysOK (ctrs_cons has_ok ctrs_nil) mixed (by kernel_rfl) (by kernel_rfl) (by kernel_rfl) (by kernel_rfl) lp_nil fun (x : DConf × DConf) hw _ => by
    rw [congrFun pair_tree x]
    exact holds_val (d := pairC.fn x) (by kernel_rfl) (by simp [Tree.safe])
def rpairC : Ctr := { args := [gConf, gConf], res := [.bool], pre := none, fn := fun (x : DConf × DConf) => cpairF x.1 x.2 }
def rpairG : List (Nat × Ctr) := [(85, rhasC)]
theorem rpair_tree : (fun x : DConf × DConf => evFn (mkC tys rpairG []) (fnOf Try.prog 40) (resL rpairC.args x) rpairC.res) =
  (fun x => Tree.leaf (bif bif x.1.1 != x.2.1 then hasF x.1.2.2.1 x.2.1 else false then hasF x.2.2.2.1 x.1.1 else false)) := by kernel_rfl
theorem rpair_ok : CtrOK Try.prog 40 rpairC :=
  fun_ok (G := rpairG) (Λ := []) tysOK (ctrs_cons rhas_ok ctrs_nil) mixed (by kernel_rfl) (by kernel_rfl) (by kernel_rfl) (by kernel_rfl) lp_nil fun (x : DConf × DConf) hw _ => by
    rw [congrFun rpair_tree x]
    exact holds_val (d := rpairC.fn x) (by kernel_rfl) (by simp [Tree.safe])
def straysG : List (Nat × Ctr) := [(81, hasC)]
theorem straysG_ok : CtrsOK Try.prog (fun f => lk f straysG) := (ctrs_cons has_ok ctrs_nil)
def straysC : Ctr := { args := [gConf, .int .i64], res := [.bool], pre := none, fn := fun (x : DConf × Int) => straysF x.1.2.2.1 x.2 }
def straysD : LoopD where
  prom := []
  ts := [(1, .val (.int .i64)), (2, .ptr 2 gConf), (5, .val .bool), (7, .val (.int .i64))]
  bs := [(2, .var gConf)]
  pre := fun (x : (Int × Bool × Int × Unit) × DConf × Unit) => 0 ≤ x.1.2.2.1 ∧ x.1.2.2.1 ≤ 16
  out := fun (x : (Int × Bool × Int × Unit) × DConf × Unit) => .leaf (.exit 0, ((x.1.1, bif strayK x.2.1.2.2.1 x.1.1 (16 - x.1.2.2.1).toNat then true else x.1.2.1, strayAt x.2.1.2.2.1 x.1.1 (16 - x.1.2.2.1).toNat, ()), x.2.1, ()))
theorem strays_round : (fun x : (Int × Bool × Int × Unit) × DConf × Unit => roundOf (mkC tys straysG [(0, straysD.spec)]) straysD (loopB 0 (bodyOf (fnOf Try.prog 87))) x) =
  (fun x =>
    Tree.br (decide (x.1.2.2.1 < (16 : Int)))
      (Tree.br (!hasF x.2.1.2.2.1 x.1.2.2.1) (Tree.leaf (Ex.normal, some ((x.1.1, x.1.2.1, IntKind.wrap IntKind.i64 (x.1.2.2.1 + (1 : Int)), ()), x.2.1, ())))
        (Tree.br (decide (x.1.2.2.1 ≥ x.1.1)) (Tree.leaf (Ex.exit (0 : Nat), some ((x.1.1, true, x.1.2.2.1, ()), x.2.1, ())))
          (Tree.leaf (Ex.normal, some ((x.1.1, x.1.2.1, IntKind.wrap IntKind.i64 (x.1.2.2.1 + (1 : Int)), ()), x.2.1, ())))))
      (Tree.leaf (Ex.exit (0 : Nat), some ((x.1.1, x.1.2.1, x.1.2.2.1, ()), x.2.1, ())))) := by kernel_rfl
theorem strays_loop : LoopOK (mkC tys straysG [(0, straysD.spec)]) straysD.spec (loopB 0 (bodyOf (fnOf Try.prog 87))) :=
  loopD_ok1 (fun _ => rfl) (fun x => congrFun strays_round x) (fun (x : (Int × Bool × Int × Unit) × DConf × Unit) => (16 - x.1.2.2.1).toNat) fun (x : (Int × Bool × Int × Unit) × DConf × Unit) hp => by
    obtain ⟨⟨m, b, i, ⟨⟩⟩, c, ⟨⟩⟩ := x
    exact stray_step rfl hp
theorem strays_tree : (fun x : DConf × Int => evFn (mkC tys straysG [(0, straysD.spec)]) (fnOf Try.prog 87) (resL straysC.args x) straysC.res) =
  (fun x => Tree.need ((0 : Int) ≤ (0 : Int) ∧ (0 : Int) ≤ (16 : Int)) (Tree.leaf (bif strayK x.1.2.2.1 x.2 (Int.toNat ((16 : Int) - (0 : Int))) then true else false))) := by kernel_rfl
theorem strays_ok : CtrOK Try.prog 87 straysC :=
  fun_ok (G := straysG) (Λ := [(0, straysD.spec)]) tysOK straysG_ok mixed (by kernel_rfl) (by kernel_rfl) (by kernel_rfl) (by kernel_rfl) (lp_cons strays_loop lp_nil) fun (x : DConf × Int) hw _ => by
    rw [congrFun strays_tree x]
    exact holds_val (d := false) (show (bif strayK x.1.2.2.1 x.2 16 then true else false) = strayK x.1.2.2.1 x.2 16 from by cases strayK x.1.2.2.1 x.2 16 <;> rfl) ⟨⟨by omega, by omega⟩, trivial⟩
def netG : List (Nat × Ctr) := [(37, confC), (87, straysC)]
theorem netG_ok : CtrsOK Try.prog (fun f => lk f netG) := (ctrs_cons conf_ok (ctrs_cons strays_ok ctrs_nil))
def netC : Ctr := { args := [.sl gConf], res := [.int .i64], pre := none, fn := fun (x : List DConf) => netF x }
def netD : LoopD where
  prom := []
  ts := [(0, .val (.sl gConf)), (2, .val (.int .i64)), (14, .val (.sl gConf)), (15, .val (.int .i64)), (16, .val (.int .i64))]
  bs := []
  pre := fun (x : (List DConf × Int × List DConf × Int × Int × Unit) × Unit) => 0 ≤ x.1.2.2.2.2.1 ∧ x.1.2.2.2.2.1 ≤ x.1.2.2.2.1 ∧ x.1.2.2.2.1 = (x.1.2.2.1.length : Int) ∧ x.1.2.2.2.1 ≤ 8
  out := fun (x : (List DConf × Int × List DConf × Int × Int × Unit) × Unit) =>
    .br (netGo x.1.1.length (x.1.2.2.1.drop x.1.2.2.2.2.1.toNat) x.1.2.2.2.2.1 == 0) (.leaf (.exit 0, ((x.1.1, x.1.2.1, x.1.2.2.1, x.1.2.2.2.1, x.1.2.2.2.1, ()), ())))
      (.leaf (.ret, ((x.1.1, netGo x.1.1.length (x.1.2.2.1.drop x.1.2.2.2.2.1.toNat) x.1.2.2.2.2.1, x.1.2.2.1, x.1.2.2.2.1, netAt x.1.1.length (x.1.2.2.1.drop x.1.2.2.2.2.1.toNat) x.1.2.2.2.2.1, ()), ())))
theorem net_round : (fun x : (List DConf × Int × List DConf × Int × Int × Unit) × Unit => roundOf (mkC tys netG [(0, netD.spec)]) netD (loopB 0 (bodyOf (fnOf Try.prog 41))) x) =
  (fun x =>
    Tree.br (decide (x.1.2.2.2.2.1 < x.1.2.2.2.1))
      (Tree.need ((0 : Int) ≤ x.1.2.2.2.2.1 ∧ x.1.2.2.2.2.1 < (↑(List.length x.1.2.2.1) : Int))
        (Tree.br (confF (List.getD x.1.2.2.1 (Int.toNat x.1.2.2.2.2.1) ((0 : Int), ((0 : Int), (0 : Int), (0 : Int), (0 : Int)), (0 : Int), List.replicate (16 : Nat) (0 : Int))) != (0 : Int))
          (Tree.leaf
            (Ex.ret,
              some
                ((x.1.1, confF (List.getD x.1.2.2.1 (Int.toNat x.1.2.2.2.2.1) ((0 : Int), ((0 : Int), (0 : Int), (0 : Int), (0 : Int)), (0 : Int), List.replicate (16 : Nat) (0 : Int))), x.1.2.2.1,
                    x.1.2.2.2.1, x.1.2.2.2.2.1, ()),
                  ())))
          (Tree.br ((List.getD x.1.2.2.1 (Int.toNat x.1.2.2.2.2.1) ((0 : Int), ((0 : Int), (0 : Int), (0 : Int), (0 : Int)), (0 : Int), List.replicate (16 : Nat) (0 : Int))).1 != x.1.2.2.2.2.1)
            (Tree.leaf (Ex.ret, some ((x.1.1, (1 : Int), x.1.2.2.1, x.1.2.2.2.1, x.1.2.2.2.2.1, ()), ())))
            (Tree.br
              (straysF (List.getD x.1.2.2.1 (Int.toNat x.1.2.2.2.2.1) ((0 : Int), ((0 : Int), (0 : Int), (0 : Int), (0 : Int)), (0 : Int), List.replicate (16 : Nat) (0 : Int))).2.2.1
                (↑(List.length x.1.1) : Int))
              (Tree.leaf (Ex.ret, some ((x.1.1, (9 : Int), x.1.2.2.1, x.1.2.2.2.1, x.1.2.2.2.2.1, ()), ())))
              (Tree.leaf (Ex.normal, some ((x.1.1, x.1.2.1, x.1.2.2.1, x.1.2.2.2.1, IntKind.wrap IntKind.i64 (x.1.2.2.2.2.1 + (1 : Int)), ()), ())))))))
      (Tree.leaf (Ex.exit (0 : Nat), some ((x.1.1, x.1.2.1, x.1.2.2.1, x.1.2.2.2.1, x.1.2.2.2.2.1, ()), ())))) := by kernel_rfl
theorem net_loop : LoopOK (mkC tys netG [(0, netD.spec)]) netD.spec (loopB 0 (bodyOf (fnOf Try.prog 41))) :=
  loopD_ok (fun x => congrFun net_round x) (fun (x : (List DConf × Int × List DConf × Int × Int × Unit) × Unit) => (x.1.2.2.2.1 - x.1.2.2.2.2.1).toNat) fun (x : (List DConf × Int × List DConf × Int × Int × Unit) × Unit) hp => by
    obtain ⟨⟨l, t, l', n, i, ⟨⟩⟩, ⟨⟩⟩ := x
    obtain ⟨h1, h2, h3, h4⟩ := hp
    simp only at h1 h2 h3 h4
    simp only [Tree.holds]
    refine ⟨fun h => ?_, fun h => ?_⟩
    · have h' : i < n := by simpa using h
      have e : IntKind.i64.wrap (i + 1) = i + 1 := i64_id (by omega) (by omega)
      have hd := drop_step (l := l') conf0 h1 (by omega)
      have hr : 0 ≤ i ∧ i < (l'.length : Int) := by omega
      have hG0 : ∀ G : Ex × ((List DConf × Int × List DConf × Int × Int × Unit) × Unit) → Prop, (netD.out ((l, t, l', n, i, ()), ())).holds G →
          (netGo l.length (l'.drop i.toNat) i == 0) = true ∧ G (.exit 0, ((l, t, l', n, n, ()), ())) ∨ (netGo l.length (l'.drop i.toNat) i == 0) = false ∧ G (.ret, ((l, netGo l.length (l'.drop i.toNat) i, l', n, netAt l.length (l'.drop i.toNat) i, ()), ())) := fun G hG => by
        cases hc : netGo l.length (l'.drop i.toNat) i == 0 with
        | true => exact .inl ⟨rfl, hG.1 hc⟩
        | false => exact .inr ⟨rfl, hG.2 hc⟩
      rw [hd] at hG0
      simp only [netGo, netAt] at hG0
      have hce : l'.getD i.toNat ((0 : Int), ((0 : Int), (0 : Int), (0 : Int), (0 : Int)), (0 : Int), List.replicate 16 (0 : Int)) = l'.getD i.toNat conf0 := rfl
      rw [hce]
      generalize l'.getD i.toNat conf0 = c at *
      refine ⟨hr, fun hc => ⟨_, rfl, fun G hG => ?_⟩, fun hc => ⟨fun hs => ⟨_, rfl, fun G hG => ?_⟩, fun hs => ⟨fun hk => ⟨_, rfl, fun G hG => ?_⟩, fun hk => ⟨_, rfl, ⟨?_, ?_, h3, h4⟩, ?_, fun G hG => ?_⟩⟩⟩⟩
      · have := hG0 G hG
        rw [hc] at this
        rcases this with ⟨h5, _⟩ | ⟨_, h5⟩
        · simp only [cond_true] at h5
          rw [bne, h5] at hc
          cases hc
        · exact h5
      · have := hG0 G hG
        rw [hc, hs] at this
        rcases this with ⟨h5, _⟩ | ⟨_, h5⟩
        · cases h5
        · exact h5
      · have := hG0 G hG
        rw [hc, hs, hk] at this
        rcases this with ⟨h5, _⟩ | ⟨_, h5⟩
        · cases h5
        · exact h5
      · show 0 ≤ IntKind.i64.wrap (i + 1); omega
      · show IntKind.i64.wrap (i + 1) ≤ n; omega
      · show (n - IntKind.i64.wrap (i + 1)).toNat < (n - i).toNat; omega
      · have := hG0 G hG
        rw [hc, hs, hk] at this
        simp only [cond_false] at this
        show ((netGo l.length (l'.drop (IntKind.i64.wrap (i + 1)).toNat) (IntKind.i64.wrap (i + 1)) == 0) = true → G (.exit 0, ((l, t, l', n, n, ()), ()))) ∧
          ((netGo l.length (l'.drop (IntKind.i64.wrap (i + 1)).toNat) (IntKind.i64.wrap (i + 1)) == 0) = false → G (.ret, ((l, netGo l.length (l'.drop (IntKind.i64.wrap (i + 1)).toNat) (IntKind.i64.wrap (i + 1)), l', n, netAt l.length (l'.drop (IntKind.i64.wrap (i + 1)).toNat) (IntKind.i64.wrap (i + 1)), ()), ())))
        rw [e]
        rcases this with ⟨h5, h6⟩ | ⟨h5, h6⟩
        · rw [h5]; exact ⟨fun _ => h6, nofun⟩
        · rw [h5]; exact ⟨nofun, fun _ => h6⟩
    · have h' : ¬ i < n := by simpa using h
      have hi : i = n := by omega
      subst hi
      have hd : l'.drop i.toNat = [] := List.drop_eq_nil_of_le (by omega)
      refine ⟨_, rfl, fun G hG => ?_⟩
      have hG' : (netGo l.length (l'.drop i.toNat) i == 0) = true → G (.exit 0, ((l, t, l', i, i, ()), ())) := hG.1
      rw [hd] at hG'
      exact hG' rfl
theorem net_tree : (fun x : List DConf => evFn (mkC tys netG [(0, netD.spec)]) (fnOf Try.prog 41) (resL netC.args x) netC.res) =
  (fun x =>
    Tree.br (bif decide ((↑(List.length x) : Int) < (1 : Int)) then true else decide ((↑(List.length x) : Int) > (8 : Int))) (Tree.leaf (4 : Int))
      (Tree.need ((0 : Int) ≤ (0 : Int) ∧ (0 : Int) ≤ (↑(List.length x) : Int) ∧ (↑(List.length x) : Int) = (↑(List.length x) : Int) ∧ (↑(List.length x) : Int) ≤ (8 : Int))
        (Tree.br (netGo (↑(List.length x) : Int) (List.drop (Int.toNat (0 : Int)) x) (0 : Int) == (0 : Int)) (Tree.leaf (0 : Int))
          (Tree.leaf (netGo (↑(List.length x) : Int) (List.drop (Int.toNat (0 : Int)) x) (0 : Int)))))) := by kernel_rfl
theorem net_ok : CtrOK Try.prog 41 netC :=
  fun_ok (G := netG) (Λ := [(0, netD.spec)]) tysOK netG_ok mixed (by kernel_rfl) (by kernel_rfl) (by kernel_rfl) (by kernel_rfl) (lp_cons net_loop lp_nil) fun (x : List DConf) hw _ => by
    rw [congrFun net_tree x]
    refine holds_val (d := (0 : Int)) (by kernel_rfl) ?_
    refine ⟨fun _ => trivial, fun h => ⟨⟨by omega, by omega, rfl, ?_⟩, fun _ => trivial, fun _ => trivial⟩⟩
    cases h1 : decide ((x.length : Int) < 1) with
    | true => rw [h1] at h; cases h
    | false => rw [h1] at h; simp at h; omega
def rnetG : List (Nat × Ctr) := [(38, rconfC), (88, rupC)]
theorem rnetG_ok : CtrsOK Try.prog (fun f => lk f rnetG) := (ctrs_cons rconf_ok (ctrs_cons rup_ok ctrs_nil))
def rnetC : Ctr := { args := [.sl gConf], res := [.int .i64], pre := none, fn := fun (x : List DConf) => netF x }
def rnetD : LoopD where
  prom := []
  ts := [(0, .val (.sl gConf)), (2, .val (.int .i64)), (16, .val (.sl gConf)), (17, .val (.int .i64)), (18, .val (.int .i64))]
  bs := []
  pre := fun (x : (List DConf × Int × List DConf × Int × Int × Unit) × Unit) => 0 ≤ x.1.2.2.2.2.1 ∧ x.1.2.2.2.2.1 ≤ x.1.2.2.2.1 ∧ x.1.2.2.2.1 = (x.1.2.2.1.length : Int) ∧ x.1.2.2.2.1 ≤ 8
  out := fun (x : (List DConf × Int × List DConf × Int × Int × Unit) × Unit) =>
    .br (netGo x.1.1.length (x.1.2.2.1.drop x.1.2.2.2.2.1.toNat) x.1.2.2.2.2.1 == 0) (.leaf (.exit 0, ((x.1.1, x.1.2.1, x.1.2.2.1, x.1.2.2.2.1, x.1.2.2.2.1, ()), ())))
      (.leaf (.ret, ((x.1.1, netGo x.1.1.length (x.1.2.2.1.drop x.1.2.2.2.2.1.toNat) x.1.2.2.2.2.1, x.1.2.2.1, x.1.2.2.2.1, netAt x.1.1.length (x.1.2.2.1.drop x.1.2.2.2.2.1.toNat) x.1.2.2.2.2.1, ()), ())))
def rnetiD : LoopD where
  prom := []
  ts := [(0, .val (.sl gConf)), (2, .val (.int .i64)), (34, .val (.sl (.int .i64))), (35, .val (.int .i64)), (36, .val (.int .i64))]
  bs := []
  pre := fun (x : (List DConf × Int × List Int × Int × Int × Unit) × Unit) => 0 ≤ x.1.2.2.2.2.1 ∧ x.1.2.2.2.2.1 ≤ x.1.2.2.2.1 ∧ x.1.2.2.2.1 = (x.1.2.2.1.length : Int) ∧ x.1.2.2.2.1 ≤ 16
  out := fun (x : (List DConf × Int × List Int × Int × Int × Unit) × Unit) =>
    .br (anyGe x.1.1.length (x.1.2.2.1.drop x.1.2.2.2.2.1.toNat)) (.leaf (.ret, ((x.1.1, 9, x.1.2.2.1, x.1.2.2.2.1, anyAt x.1.1.length (x.1.2.2.1.drop x.1.2.2.2.2.1.toNat) x.1.2.2.2.2.1, ()), ())))
      (.leaf (.exit 2, ((x.1.1, x.1.2.1, x.1.2.2.1, x.1.2.2.2.1, x.1.2.2.2.1, ()), ())))
noncomputable def rnetL : List (Nat × LoopSpec) := [(0, rnetD.spec), (2, rnetiD.spec)]
theorem rneti_round : (fun x : (List DConf × Int × List Int × Int × Int × Unit) × Unit => roundOf (mkC tys rnetG rnetL) rnetiD (loopB 2 (bodyOf (fnOf Try.prog 42))) x) =
  (fun x =>
    Tree.br (decide (x.1.2.2.2.2.1 < x.1.2.2.2.1))
      (Tree.need ((0 : Int) ≤ x.1.2.2.2.2.1 ∧ x.1.2.2.2.2.1 < (↑(List.length x.1.2.2.1) : Int))
        (Tree.br (decide (List.getD x.1.2.2.1 (Int.toNat x.1.2.2.2.2.1) (0 : Int) ≥ (↑(List.length x.1.1) : Int)))
          (Tree.leaf (Ex.ret, some ((x.1.1, (9 : Int), x.1.2.2.1, x.1.2.2.2.1, x.1.2.2.2.2.1, ()), ())))
          (Tree.leaf (Ex.normal, some ((x.1.1, x.1.2.1, x.1.2.2.1, x.1.2.2.2.1, IntKind.wrap IntKind.i64 (x.1.2.2.2.2.1 + (1 : Int)), ()), ())))))
      (Tree.leaf (Ex.exit (2 : Nat), some ((x.1.1, x.1.2.1, x.1.2.2.1, x.1.2.2.2.1, x.1.2.2.2.2.1, ()), ())))) := by kernel_rfl
theorem rneti_loop : LoopOK (mkC tys rnetG rnetL) rnetiD.spec (loopB 2 (bodyOf (fnOf Try.prog 42))) :=
  loopD_ok (fun x => congrFun rneti_round x) (fun (x : (List DConf × Int × List Int × Int × Int × Unit) × Unit) => (x.1.2.2.2.1 - x.1.2.2.2.2.1).toNat) fun (x : (List DConf × Int × List Int × Int × Int × Unit) × Unit) hp => by
    obtain ⟨⟨l, t, l', n, i, ⟨⟩⟩, ⟨⟩⟩ := x
    obtain ⟨h1, h2, h3, h4⟩ := hp
    simp only at h1 h2 h3 h4
    simp only [Tree.holds]
    refine ⟨fun h => ?_, fun h => ?_⟩
    · have h' : i < n := by simpa using h
      have e : IntKind.i64.wrap (i + 1) = i + 1 := i64_id (by omega) (by omega)
      have hd := drop_step (l := l') (0 : Int) h1 (by omega)
      have hr : 0 ≤ i ∧ i < (l'.length : Int) := by omega
      have hG0 : ∀ G : Ex × ((List DConf × Int × List Int × Int × Int × Unit) × Unit) → Prop, (rnetiD.out ((l, t, l', n, i, ()), ())).holds G →
          (anyGe l.length (l'.drop i.toNat) = true → G (.ret, ((l, 9, l', n, anyAt l.length (l'.drop i.toNat) i, ()), ()))) ∧ (anyGe l.length (l'.drop i.toNat) = false → G (.exit 2, ((l, t, l', n, n, ()), ()))) := fun G hG => hG
      rw [hd] at hG0
      simp only [anyGe, anyAt] at hG0
      generalize l'.getD i.toNat 0 = c at *
      refine ⟨hr, fun hc => ⟨_, rfl, fun G hG => ?_⟩, fun hc => ⟨_, rfl, ⟨?_, ?_, h3, h4⟩, ?_, fun G hG => ?_⟩⟩
      · have := hG0 G hG
        rw [hc] at this
        exact this.1 rfl
      · show 0 ≤ IntKind.i64.wrap (i + 1); omega
      · show IntKind.i64.wrap (i + 1) ≤ n; omega
      · show (n - IntKind.i64.wrap (i + 1)).toNat < (n - i).toNat; omega
      · have := hG0 G hG
        rw [hc] at this
        show (anyGe l.length (l'.drop (IntKind.i64.wrap (i + 1)).toNat) = true → G (.ret, ((l, 9, l', n, anyAt l.length (l'.drop (IntKind.i64.wrap (i + 1)).toNat) (IntKind.i64.wrap (i + 1)), ()), ()))) ∧
          (anyGe l.length (l'.drop (IntKind.i64.wrap (i + 1)).toNat) = false → G (.exit 2, ((l, t, l', n, n, ()), ())))
        rw [e]
        exact this
    · have h' : ¬ i < n := by simpa using h
      have hi : i = n := by omega
      subst hi
      have hd : l'.drop i.toNat = [] := List.drop_eq_nil_of_le (by omega)
      refine ⟨_, rfl, fun G hG => ?_⟩
      have hG' : anyGe l.length (l'.drop i.toNat) = false → G (.exit 2, ((l, t, l', i, i, ()), ())) := hG.2
      rw [hd] at hG'
      exact hG' rfl
theorem rnet_round : (fun x : (List DConf × Int × List DConf × Int × Int × Unit) × Unit => roundOf (mkC tys rnetG rnetL) rnetD (loopB 0 (bodyOf (fnOf Try.prog 42))) x) =
  (fun x =>
    Tree.br (decide (x.1.2.2.2.2.1 < x.1.2.2.2.1))
      (Tree.need ((0 : Int) ≤ x.1.2.2.2.2.1 ∧ x.1.2.2.2.2.1 < (↑(List.length x.1.2.2.1) : Int))
        (Tree.br (confF (List.getD x.1.2.2.1 (Int.toNat x.1.2.2.2.2.1) ((0 : Int), ((0 : Int), (0 : Int), (0 : Int), (0 : Int)), (0 : Int), List.replicate (16 : Nat) (0 : Int))) != (0 : Int))
          (Tree.leaf
            (Ex.ret,
              some
                ((x.1.1, confF (List.getD x.1.2.2.1 (Int.toNat x.1.2.2.2.2.1) ((0 : Int), ((0 : Int), (0 : Int), (0 : Int), (0 : Int)), (0 : Int), List.replicate (16 : Nat) (0 : Int))), x.1.2.2.1,
                    x.1.2.2.2.1, x.1.2.2.2.2.1, ()),
                  ())))
          (Tree.br ((List.getD x.1.2.2.1 (Int.toNat x.1.2.2.2.2.1) ((0 : Int), ((0 : Int), (0 : Int), (0 : Int), (0 : Int)), (0 : Int), List.replicate (16 : Nat) (0 : Int))).1 != x.1.2.2.2.2.1)
            (Tree.leaf (Ex.ret, some ((x.1.1, (1 : Int), x.1.2.2.1, x.1.2.2.2.1, x.1.2.2.2.2.1, ()), ())))
            (Tree.need
              ((0 : Int) ≤ (0 : Int) ∧
                (0 : Int) ≤
                    (↑(List.length
                          (elemsF (List.getD x.1.2.2.1 (Int.toNat x.1.2.2.2.2.1) ((0 : Int), ((0 : Int), (0 : Int), (0 : Int), (0 : Int)), (0 : Int), List.replicate (16 : Nat) (0 : Int))).2.2.1
                            (16 : Nat))) :
                      Int) ∧
                  (↑(List.length
                            (elemsF (List.getD x.1.2.2.1 (Int.toNat x.1.2.2.2.2.1) ((0 : Int), ((0 : Int), (0 : Int), (0 : Int), (0 : Int)), (0 : Int), List.replicate (16 : Nat) (0 : Int))).2.2.1
                              (16 : Nat))) :
                        Int) =
                      (↑(List.length
                            (elemsF (List.getD x.1.2.2.1 (Int.toNat x.1.2.2.2.2.1) ((0 : Int), ((0 : Int), (0 : Int), (0 : Int), (0 : Int)), (0 : Int), List.replicate (16 : Nat) (0 : Int))).2.2.1
                              (16 : Nat))) :
                        Int) ∧
                    (↑(List.length
                            (elemsF (List.getD x.1.2.2.1 (Int.toNat x.1.2.2.2.2.1) ((0 : Int), ((0 : Int), (0 : Int), (0 : Int), (0 : Int)), (0 : Int), List.replicate (16 : Nat) (0 : Int))).2.2.1
                              (16 : Nat))) :
                        Int) ≤
                      (16 : Int))
              (Tree.br
                (anyGe (↑(List.length x.1.1) : Int)
                  (List.drop (Int.toNat (0 : Int))
                    (elemsF (List.getD x.1.2.2.1 (Int.toNat x.1.2.2.2.2.1) ((0 : Int), ((0 : Int), (0 : Int), (0 : Int), (0 : Int)), (0 : Int), List.replicate (16 : Nat) (0 : Int))).2.2.1 (16 : Nat))))
                (Tree.leaf (Ex.ret, some ((x.1.1, (9 : den (GTy.int IntKind.i64)), x.1.2.2.1, x.1.2.2.2.1, x.1.2.2.2.2.1, ()), ())))
                (Tree.leaf (Ex.normal, some ((x.1.1, x.1.2.1, x.1.2.2.1, x.1.2.2.2.1, IntKind.wrap IntKind.i64 (x.1.2.2.2.2.1 + (1 : Int)), ()), ()))))))))
      (Tree.leaf (Ex.exit (0 : Nat), some ((x.1.1, x.1.2.1, x.1.2.2.1, x.1.2.2.2.1, x.1.2.2.2.2.1, ()), ())))) := by kernel_rfl
theorem rnet_loop : LoopOK (mkC tys rnetG rnetL) rnetD.spec (loopB 0 (bodyOf (fnOf Try.prog 42))) :=
  loopD_ok (fun x => congrFun rnet_round x) (fun (x : (List DConf × Int × List DConf × Int × Int × Unit) × Unit) => (x.1.2.2.2.1 - x.1.2.2.2.2.1).toNat) fun (x : (List DConf × Int × List DConf × Int × Int × Unit) × Unit) hp => by
    obtain ⟨⟨l, t, l', n, i, ⟨⟩⟩, ⟨⟩⟩ := x
    obtain ⟨h1, h2, h3, h4⟩ := hp
    simp only at h1 h2 h3 h4
    simp only [Tree.holds]
    refine ⟨fun h => ?_, fun h => ?_⟩
    · have h' : i < n := by simpa using h
      have e : IntKind.i64.wrap (i + 1) = i + 1 := i64_id (by omega) (by omega)
      have hd := drop_step (l := l') conf0 h1 (by omega)
      have hr : 0 ≤ i ∧ i < (l'.length : Int) := by omega
      have hG0 : ∀ G : Ex × ((List DConf × Int × List DConf × Int × Int × Unit) × Unit) → Prop, (rnetD.out ((l, t, l', n, i, ()), ())).holds G →
          (netGo l.length (l'.drop i.toNat) i == 0) = true ∧ G (.exit 0, ((l, t, l', n, n, ()), ())) ∨ (netGo l.length (l'.drop i.toNat) i == 0) = false ∧ G (.ret, ((l, netGo l.length (l'.drop i.toNat) i, l', n, netAt l.length (l'.drop i.toNat) i, ()), ())) := fun G hG => by
        cases hc : netGo l.length (l'.drop i.toNat) i == 0 with
        | true => exact .inl ⟨rfl, hG.1 hc⟩
        | false => exact .inr ⟨rfl, hG.2 hc⟩
      rw [hd] at hG0
      simp only [netGo, netAt] at hG0
      have hce : l'.getD i.toNat ((0 : Int), ((0 : Int), (0 : Int), (0 : Int), (0 : Int)), (0 : Int), List.replicate 16 (0 : Int)) = l'.getD i.toNat conf0 := rfl
      rw [hce]
      generalize l'.getD i.toNat conf0 = c at *
      refine ⟨hr, fun hc => ⟨_, rfl, fun G hG => ?_⟩, fun hc => ⟨fun hs => ⟨_, rfl, fun G hG => ?_⟩, fun hs => ⟨⟨by omega, by omega, trivial, by have := elems_len c.2.2.1 16; omega⟩, fun hk => ⟨_, rfl, fun G hG => ?_⟩, fun hk => ⟨_, rfl, ⟨?_, ?_, h3, h4⟩, ?_, fun G hG => ?_⟩⟩⟩⟩
      · have := hG0 G hG
        rw [hc] at this
        rcases this with ⟨h5, _⟩ | ⟨_, h5⟩
        · simp only [cond_true] at h5
          rw [bne, h5] at hc
          cases hc
        · exact h5
      · have := hG0 G hG
        rw [hc, hs] at this
        rcases this with ⟨h5, _⟩ | ⟨_, h5⟩
        · cases h5
        · exact h5
      · have := hG0 G hG
        have hk' : straysF c.2.2.1 l.length = true := by unfold straysF; rw [← any_stray]; exact hk
        rw [hc, hs, hk'] at this
        rcases this with ⟨h5, _⟩ | ⟨_, h5⟩
        · cases h5
        · exact h5
      · show 0 ≤ IntKind.i64.wrap (i + 1); omega
      · show IntKind.i64.wrap (i + 1) ≤ n; omega
      · show (n - IntKind.i64.wrap (i + 1)).toNat < (n - i).toNat; omega
      · have := hG0 G hG
        have hk' : straysF c.2.2.1 l.length = false := by unfold straysF; rw [← any_stray]; exact hk
        rw [hc, hs, hk'] at this
        simp only [cond_false] at this
        show ((netGo l.length (l'.drop (IntKind.i64.wrap (i + 1)).toNat) (IntKind.i64.wrap (i + 1)) == 0) = true → G (.exit 0, ((l, t, l', n, n, ()), ()))) ∧
          ((netGo l.length (l'.drop (IntKind.i64.wrap (i + 1)).toNat) (IntKind.i64.wrap (i + 1)) == 0) = false → G (.ret, ((l, netGo l.length (l'.drop (IntKind.i64.wrap (i + 1)).toNat) (IntKind.i64.wrap (i + 1)), l', n, netAt l.length (l'.drop (IntKind.i64.wrap (i + 1)).toNat) (IntKind.i64.wrap (i + 1)), ()), ())))
        rw [e]
        rcases this with ⟨h5, h6⟩ | ⟨h5, h6⟩
        · rw [h5]; exact ⟨fun _ => h6, nofun⟩
        · rw [h5]; exact ⟨nofun, fun _ => h6⟩
    · have h' : ¬ i < n := by simpa using h
      have hi : i = n := by omega
      subst hi
      have hd : l'.drop i.toNat = [] := List.drop_eq_nil_of_le (by omega)
      refine ⟨_, rfl, fun G hG => ?_⟩
      have hG' : (netGo l.length (l'.drop i.toNat) i == 0) = true → G (.exit 0, ((l, t, l', i, i, ()), ())) := hG.1
      rw [hd] at hG'
      exact hG' rfl
theorem rnet_tree : (fun x : List DConf => evFn (mkC tys rnetG rnetL) (fnOf Try.prog 42) (resL rnetC.args x) rnetC.res) =
  (fun x =>
    Tree.br (bif decide ((↑(List.length x) : Int) < (1 : Int)) then true else decide ((↑(List.length x) : Int) > (8 : Int))) (Tree.leaf (4 : Int))
      (Tree.need ((0 : Int) ≤ (0 : Int) ∧ (0 : Int) ≤ (↑(List.length x) : Int) ∧ (↑(List.length x) : Int) = (↑(List.length x) : Int) ∧ (↑(List.length x) : Int) ≤ (8 : Int))
        (Tree.br (netGo (↑(List.length x) : Int) (List.drop (Int.toNat (0 : Int)) x) (0 : Int) == (0 : Int)) (Tree.leaf (0 : Int))
          (Tree.leaf (netGo (↑(List.length x) : Int) (List.drop (Int.toNat (0 : Int)) x) (0 : Int)))))) := by kernel_rfl
theorem rnet_ok : CtrOK Try.prog 42 rnetC :=
  fun_ok (G := rnetG) (Λ := rnetL) tysOK rnetG_ok mixed (by kernel_rfl) (by kernel_rfl) (by kernel_rfl) (by kernel_rfl) (lp_cons rnet_loop (lp_cons rneti_loop lp_nil)) fun (x : List DConf) hw _ => by
    rw [congrFun rnet_tree x]
    refine holds_val (d := (0 : Int)) (by kernel_rfl) ?_
    refine ⟨fun _ => trivial, fun h => ⟨⟨by omega, by omega, rfl, ?_⟩, fun _ => trivial, fun _ => trivial⟩⟩
    cases h1 : decide ((x.length : Int) < 1) with
    | true => rw [h1] at h; cases h
    | false => rw [h1] at h; simp at h; omega
end Go.Ev.P
