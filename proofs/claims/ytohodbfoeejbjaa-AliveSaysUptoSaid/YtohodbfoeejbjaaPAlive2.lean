/- The reference's ends, and what is said of ends. -/
import Derived.Test.YtohodbfoeejbjaaPAlive
import Derived.Test.YtohodbfoeejbjaaEvLawAlive
set_option linter.unusedVariables false
set_option linter.unusedSimpArgs false
namespace Go.Ev.P
open Go.Proofs
def rdueC : Ctr := { args := [gPort], res := [.bool], pre := none, fn := fun (x : DPort) => dueF x }
def rdueG : List (Nat × Ctr) := []
theorem rdue_tree : (fun x : DPort => evFn (mkC tys rdueG []) (fnOf Try.prog 19) (resL rdueC.args x) rdueC.res) =
  (fun x => Tree.leaf (bif x.1 != (0 : Int) then decide (x.2.2.2.2.1 ≤ (1 : Int)) else false)) := by kernel_rfl
theorem rdue_ok : CtrOK Try.prog 19 rdueC :=
  fun_ok (G := rdueG) (Λ := []) tysOK ctrs_nil mixed (by kernel_rfl) (by kernel_rfl) (by kernel_rfl) (by kernel_rfl) lp_nil fun (x : DPort) hw _ => by
    rw [congrFun rdue_tree x]
    exact holds_val (d := rdueC.fn x) (by kernel_rfl) (by simp [Tree.safe])
def rheardC : Ctr := { args := [gPort], res := [gPort], pre := none, fn := fun (x : DPort) => heardF x }
def rheardG : List (Nat × Ctr) := []
theorem rheard_tree : (fun x : DPort => evFn (mkC tys rheardG []) (fnOf Try.prog 21) (resL rheardC.args x) rheardC.res) =
  (fun x => Tree.leaf (x.1, x.2.1, x.2.2.1, (0 : Int), x.2.2.2.2)) := by kernel_rfl
theorem rheard_ok : CtrOK Try.prog 21 rheardC :=
  fun_ok (G := rheardG) (Λ := []) tysOK ctrs_nil mixed (by kernel_rfl) (by kernel_rfl) (by kernel_rfl) (by kernel_rfl) lp_nil fun (x : DPort) hw _ => by
    rw [congrFun rheard_tree x]
    exact holds_val (d := rheardC.fn x) (by kernel_rfl) (by simp [Tree.safe])
def rules21C : Ctr := { args := [], res := [gRules], pre := none, fn := fun (x : Unit) => (2, 5, 2, 3) }
def rules21G : List (Nat × Ctr) := []
theorem rules21_tree : (fun x : Unit => evFn (mkC tys rules21G []) (fnOf Try.prog 22) (resL rules21C.args x) rules21C.res) =
  (fun x => Tree.leaf ((2 : Int), (5 : Int), (2 : Int), (3 : Int))) := by kernel_rfl
theorem rules21_ok : CtrOK Try.prog 22 rules21C :=
  fun_ok (G := rules21G) (Λ := []) tysOK ctrs_nil mixed (by kernel_rfl) (by kernel_rfl) (by kernel_rfl) (by kernel_rfl) lp_nil fun (x : Unit) hw _ => by
    rw [congrFun rules21_tree x]
    exact holds_val (d := rules21C.fn x) (by kernel_rfl) (by simp [Tree.safe])
def awake21C : Ctr := { args := [], res := [.bool], pre := none, fn := fun (x : Unit) => true }
def awake21G : List (Nat × Ctr) := [(22, rules21C), (15, tickC), (18, dueC), (20, heardC)]
theorem awake21_tree : (fun x : Unit => evFn (mkC tys awake21G [] true) (fnOf Try.prog 14) (resL awake21C.args x) awake21C.res) =
  (fun x => Tree.leaf true) := by kernel_rfl
theorem awake21_ok : CtrOK Try.prog 14 awake21C :=
  fun_okX true (G := awake21G) (Λ := []) tysOK (ctrs_cons rules21_ok (ctrs_cons tick_ok (ctrs_cons due_ok (ctrs_cons heard_ok ctrs_nil)))) mixed (by kernel_rfl) (by kernel_rfl) (by kernel_rfl) (by kernel_rfl) lp_nil fun (x : Unit) hw _ => by
    rw [congrFun awake21_tree x]
    exact holds_val (d := awake21C.fn x) (by kernel_rfl) (by simp [Tree.safe])
def rtickG : List (Nat × Ctr) := [(19, rdueC)]
theorem rtickG_ok : CtrsOK Try.prog (fun f => lk f rtickG) := (ctrs_cons rdue_ok ctrs_nil)
def rtickC : Ctr := { args := [gPort, gRules], res := [gPort, .bool, .bool], pre := none, fn := fun (x : DPort × DRules) => tickF x.1 x.2 }
theorem rtick_tree : (fun x : DPort × DRules => evFn (mkC tys rtickG []) (fnOf Try.prog 16) (resL rtickC.args x) rtickC.res) =
  (fun x =>
    Tree.br (x.1.1 == (0 : Int)) (Tree.leaf (x.1, false, false))
      (Tree.br
        ((bif dueF x.1 then (x.1.1, x.1.2.1, x.1.2.2.1, x.1.2.2.2.1, if (1 : Int) < x.2.1 then x.2.1 else (1 : Int), x.1.2.2.2.2.2)
            else (x.1.1, x.1.2.1, x.1.2.2.1, x.1.2.2.2.1, IntKind.wrap IntKind.i64 (x.1.2.2.2.2.1 - (1 : Int)), x.1.2.2.2.2.2)).1 !=
          (2 : Int))
        (Tree.leaf
          (bif dueF x.1 then (x.1.1, x.1.2.1, x.1.2.2.1, x.1.2.2.2.1, if (1 : Int) < x.2.1 then x.2.1 else (1 : Int), x.1.2.2.2.2.2)
            else (x.1.1, x.1.2.1, x.1.2.2.1, x.1.2.2.2.1, IntKind.wrap IntKind.i64 (x.1.2.2.2.2.1 - (1 : Int)), x.1.2.2.2.2.2),
            dueF x.1, false))
        (Tree.leaf
          (bif
                decide
                  ((bif dueF x.1 then (x.1.1, x.1.2.1, x.1.2.2.1, x.1.2.2.2.1, if (1 : Int) < x.2.1 then x.2.1 else (1 : Int), x.1.2.2.2.2.2)
                            else (x.1.1, x.1.2.1, x.1.2.2.1, x.1.2.2.2.1, IntKind.wrap IntKind.i64 (x.1.2.2.2.2.1 - (1 : Int)), x.1.2.2.2.2.2)).2.2.2.1 <
                    x.2.2.1) then
              ((bif dueF x.1 then (x.1.1, x.1.2.1, x.1.2.2.1, x.1.2.2.2.1, if (1 : Int) < x.2.1 then x.2.1 else (1 : Int), x.1.2.2.2.2.2)
                  else (x.1.1, x.1.2.1, x.1.2.2.1, x.1.2.2.2.1, IntKind.wrap IntKind.i64 (x.1.2.2.2.2.1 - (1 : Int)), x.1.2.2.2.2.2)).1,
                (bif dueF x.1 then (x.1.1, x.1.2.1, x.1.2.2.1, x.1.2.2.2.1, if (1 : Int) < x.2.1 then x.2.1 else (1 : Int), x.1.2.2.2.2.2)
                    else (x.1.1, x.1.2.1, x.1.2.2.1, x.1.2.2.2.1, IntKind.wrap IntKind.i64 (x.1.2.2.2.2.1 - (1 : Int)), x.1.2.2.2.2.2)).2.1,
                (bif dueF x.1 then (x.1.1, x.1.2.1, x.1.2.2.1, x.1.2.2.2.1, if (1 : Int) < x.2.1 then x.2.1 else (1 : Int), x.1.2.2.2.2.2)
                      else (x.1.1, x.1.2.1, x.1.2.2.1, x.1.2.2.2.1, IntKind.wrap IntKind.i64 (x.1.2.2.2.2.1 - (1 : Int)), x.1.2.2.2.2.2)).2.2.1,
                IntKind.wrap IntKind.i64
                  ((bif dueF x.1 then (x.1.1, x.1.2.1, x.1.2.2.1, x.1.2.2.2.1, if (1 : Int) < x.2.1 then x.2.1 else (1 : Int), x.1.2.2.2.2.2)
                            else (x.1.1, x.1.2.1, x.1.2.2.1, x.1.2.2.2.1, IntKind.wrap IntKind.i64 (x.1.2.2.2.2.1 - (1 : Int)), x.1.2.2.2.2.2)).2.2.2.1 +
                    (1 : Int)),
                (bif dueF x.1 then (x.1.1, x.1.2.1, x.1.2.2.1, x.1.2.2.2.1, if (1 : Int) < x.2.1 then x.2.1 else (1 : Int), x.1.2.2.2.2.2)
                        else (x.1.1, x.1.2.1, x.1.2.2.1, x.1.2.2.2.1, IntKind.wrap IntKind.i64 (x.1.2.2.2.2.1 - (1 : Int)), x.1.2.2.2.2.2)).2.2.2.2)
            else
              bif dueF x.1 then (x.1.1, x.1.2.1, x.1.2.2.1, x.1.2.2.2.1, if (1 : Int) < x.2.1 then x.2.1 else (1 : Int), x.1.2.2.2.2.2)
              else (x.1.1, x.1.2.1, x.1.2.2.1, x.1.2.2.2.1, IntKind.wrap IntKind.i64 (x.1.2.2.2.2.1 - (1 : Int)), x.1.2.2.2.2.2),
            dueF x.1,
            decide
              ((bif
                            decide
                              ((bif dueF x.1 then (x.1.1, x.1.2.1, x.1.2.2.1, x.1.2.2.2.1, if (1 : Int) < x.2.1 then x.2.1 else (1 : Int), x.1.2.2.2.2.2)
                                        else (x.1.1, x.1.2.1, x.1.2.2.1, x.1.2.2.2.1, IntKind.wrap IntKind.i64 (x.1.2.2.2.2.1 - (1 : Int)), x.1.2.2.2.2.2)).2.2.2.1 <
                                x.2.2.1) then
                          ((bif dueF x.1 then (x.1.1, x.1.2.1, x.1.2.2.1, x.1.2.2.2.1, if (1 : Int) < x.2.1 then x.2.1 else (1 : Int), x.1.2.2.2.2.2)
                              else (x.1.1, x.1.2.1, x.1.2.2.1, x.1.2.2.2.1, IntKind.wrap IntKind.i64 (x.1.2.2.2.2.1 - (1 : Int)), x.1.2.2.2.2.2)).1,
                            (bif dueF x.1 then (x.1.1, x.1.2.1, x.1.2.2.1, x.1.2.2.2.1, if (1 : Int) < x.2.1 then x.2.1 else (1 : Int), x.1.2.2.2.2.2)
                                else (x.1.1, x.1.2.1, x.1.2.2.1, x.1.2.2.2.1, IntKind.wrap IntKind.i64 (x.1.2.2.2.2.1 - (1 : Int)), x.1.2.2.2.2.2)).2.1,
                            (bif dueF x.1 then (x.1.1, x.1.2.1, x.1.2.2.1, x.1.2.2.2.1, if (1 : Int) < x.2.1 then x.2.1 else (1 : Int), x.1.2.2.2.2.2)
                                  else (x.1.1, x.1.2.1, x.1.2.2.1, x.1.2.2.2.1, IntKind.wrap IntKind.i64 (x.1.2.2.2.2.1 - (1 : Int)), x.1.2.2.2.2.2)).2.2.1,
                            IntKind.wrap IntKind.i64
                              ((bif dueF x.1 then (x.1.1, x.1.2.1, x.1.2.2.1, x.1.2.2.2.1, if (1 : Int) < x.2.1 then x.2.1 else (1 : Int), x.1.2.2.2.2.2)
                                        else (x.1.1, x.1.2.1, x.1.2.2.1, x.1.2.2.2.1, IntKind.wrap IntKind.i64 (x.1.2.2.2.2.1 - (1 : Int)), x.1.2.2.2.2.2)).2.2.2.1 +
                                (1 : Int)),
                            (bif dueF x.1 then (x.1.1, x.1.2.1, x.1.2.2.1, x.1.2.2.2.1, if (1 : Int) < x.2.1 then x.2.1 else (1 : Int), x.1.2.2.2.2.2)
                                    else (x.1.1, x.1.2.1, x.1.2.2.1, x.1.2.2.2.1, IntKind.wrap IntKind.i64 (x.1.2.2.2.2.1 - (1 : Int)), x.1.2.2.2.2.2)).2.2.2.2)
                        else
                          bif dueF x.1 then (x.1.1, x.1.2.1, x.1.2.2.1, x.1.2.2.2.1, if (1 : Int) < x.2.1 then x.2.1 else (1 : Int), x.1.2.2.2.2.2)
                          else (x.1.1, x.1.2.1, x.1.2.2.1, x.1.2.2.2.1, IntKind.wrap IntKind.i64 (x.1.2.2.2.2.1 - (1 : Int)), x.1.2.2.2.2.2)).2.2.2.1 ≥
                x.2.2.1))))) := by kernel_rfl
theorem rtick_ok : CtrOK Try.prog 16 rtickC :=
  fun_ok (G := rtickG) (Λ := []) tysOK rtickG_ok mixed (by kernel_rfl) (by kernel_rfl) (by kernel_rfl) (by kernel_rfl) lp_nil fun (x : DPort × DRules) hw _ => by
    rw [congrFun rtick_tree x]
    rw [max_two]
    show (Tree.br (x.1.1 == (0 : Int)) (Tree.leaf (x.1, false, false)) (Tree.br ((stepF x.2 x.1).1 != (2 : Int)) (Tree.leaf (stepF x.2 x.1, dueF x.1, false)) (Tree.leaf (quietF x.2 (stepF x.2 x.1), dueF x.1, decide ((quietF x.2 (stepF x.2 x.1)).2.2.2.1 ≥ x.2.2.1))))).holds fun y => y = tickF x.1 x.2
    simp only [Tree.holds, tickF]
    refine ⟨fun h => by rw [h]; rfl, fun h => ⟨fun h' => ?_, fun h' => ?_⟩⟩
    · have h2 : ((stepF x.2 x.1).1 == (2 : Int)) = false := by simpa [bne] using h'
      rw [h, h2]; rfl
    · have h2 : ((stepF x.2 x.1).1 == (2 : Int)) = true := by simpa [bne] using h'
      rw [h, h2]; rfl
def plongC : Ctr := { args := [gPart], res := [.bool], pre := none, fn := fun (x : DPart) => decide ((x.2.2.2.2.length : Int) > 100) }
def plongG : List (Nat × Ctr) := []
theorem plong_tree : (fun x : DPart => evFn (mkC tys plongG []) (fnOf Try.prog 48) (resL plongC.args x) plongC.res) =
  (fun x => Tree.leaf (decide ((↑(List.length x.2.2.2.2) : Int) > (100 : Int)))) := by kernel_rfl
theorem plong_ok : CtrOK Try.prog 48 plongC :=
  fun_ok (G := plongG) (Λ := []) tysOK ctrs_nil mixed (by kernel_rfl) (by kernel_rfl) (by kernel_rfl) (by kernel_rfl) lp_nil fun (x : DPart) hw _ => by
    rw [congrFun plong_tree x]
    exact holds_val (d := plongC.fn x) (by kernel_rfl) (by simp [Tree.safe])
def adiesG : List (Nat × Ctr) := [(22, rules21C), (15, tickC), (20, heardC), (14, awake21C)]
theorem adiesG_ok : CtrsOK Try.prog (fun f => lk f adiesG) := (ctrs_cons rules21_ok (ctrs_cons tick_ok (ctrs_cons heard_ok (ctrs_cons awake21_ok ctrs_nil))))
def adiesC : Ctr := { args := [.arr 3 (.int .i64)], res := [.bool], pre := some (smallD [.arr 3 (.int .i64)]), fn := fun _ => true }
def dies0D : LoopD where
  prom := []
  ts := [(2, .val .bool), (3, .ptr 3 gRules), (4, .val (.int .i64)), (5, .ptr 5 gPort), (6, .val (.int .i64)), (7, .val (.int .i64))]
  bs := [(3, .var gRules), (5, .var gPort)]
  pre := fun (x : (Bool × Int × Int × Int × Unit) × DRules × DPort × Unit) => pre0 x.1.2.1 x.1.2.2.1 x.1.2.2.2.1 x.2.1 x.2.2.1
  out := fun (x : (Bool × Int × Int × Int × Unit) × DRules × DPort × Unit) => .leaf (.exit 0, ((x.1.1, x.1.2.1, (59 + x.2.1.1) / x.2.1.1, 61, ()), x.2.1, portAt (60 % x.1.2.1) (waitAt x.2.1.1 61), ()))
def dies2D : LoopD where
  prom := []
  ts := [(2, .val .bool), (3, .ptr 3 gRules), (5, .ptr 5 gPort), (6, .val (.int .i64)), (11, .val (.int .i64))]
  bs := [(3, .var gRules), (5, .var gPort)]
  pre := fun (x : (Bool × Int × Int × Unit) × DRules × DPort × Unit) => pre2 x.1.2.2.1 x.2.1 x.2.2.1
  out := fun (x : (Bool × Int × Int × Unit) × DRules × DPort × Unit) => .leaf (.exit 2, ((x.1.1, x.1.2.1, x.2.1.2.1 + 1, ()), x.2.1, runP x.2.1 (x.2.1.2.1 + 1 - x.1.2.2.1).toNat x.2.2.1, ()))
theorem dies0_round : (fun x : (Bool × Int × Int × Int × Unit) × DRules × DPort × Unit => roundOf (mkC tys adiesG [(0, dies0D.spec), (2, dies2D.spec)]) dies0D (loopB 0 (bodyOf (fnOf Try.prog 4))) x) =
  (fun x =>
    Tree.br (decide (x.1.2.2.2.1 ≤ (60 : Int)))
      (Tree.need (((tickF x.2.2.1 x.2.1).2.2 == false && true) = true → x.2.1.1 ≠ (0 : Int))
        (Tree.br (bif (tickF x.2.2.1 x.2.1).2.2 then true else !geq GTy.bool (tickF x.2.2.1 x.2.1).2.1 (Int.tmod (IntKind.wrap IntKind.i64 (x.1.2.2.2.1 - (1 : Int))) x.2.1.1 == (0 : Int)))
          (Tree.leaf (Ex.ret, some ((false, x.1.2.1, x.1.2.2.1, x.1.2.2.2.1, ()), x.2.1, x.2.2.1, ())))
          (Tree.need (x.1.2.1 ≠ (0 : Int))
            (Tree.leaf
              (Ex.normal,
                some
                  ((x.1.1, x.1.2.1, bif (tickF x.2.2.1 x.2.1).2.1 then IntKind.wrap IntKind.i64 (x.1.2.2.1 + (1 : Int)) else x.1.2.2.1, IntKind.wrap IntKind.i64 (x.1.2.2.2.1 + (1 : Int)), ()), x.2.1,
                    bif Int.tmod x.1.2.2.2.1 x.1.2.1 == (0 : Int) then heardF (tickF x.2.2.1 x.2.1).1 else (tickF x.2.2.1 x.2.1).1, ()))))))
      (Tree.leaf (Ex.exit (0 : Nat), some ((x.1.1, x.1.2.1, x.1.2.2.1, x.1.2.2.2.1, ()), x.2.1, x.2.2.1, ())))) := by kernel_rfl
theorem dies2_round : (fun x : (Bool × Int × Int × Unit) × DRules × DPort × Unit => roundOf (mkC tys adiesG [(0, dies0D.spec), (2, dies2D.spec)]) dies2D (loopB 2 (bodyOf (fnOf Try.prog 4))) x) =
  (fun x =>
    Tree.br (decide (x.1.2.2.1 ≤ x.2.1.2.1))
      (Tree.br (!geq GTy.bool (tickF x.2.2.1 x.2.1).2.2 (x.1.2.2.1 == x.2.1.2.1)) (Tree.leaf (Ex.ret, some ((false, x.1.2.1, x.1.2.2.1, ()), x.2.1, x.2.2.1, ())))
        (Tree.leaf (Ex.normal, some ((x.1.1, x.1.2.1, IntKind.wrap IntKind.i64 (x.1.2.2.1 + (1 : Int)), ()), x.2.1, (tickF x.2.2.1 x.2.1).1, ()))))
      (Tree.leaf (Ex.exit (2 : Nat), some ((x.1.1, x.1.2.1, x.1.2.2.1, ()), x.2.1, x.2.2.1, ())))) := by kernel_rfl
theorem dies0_loop : LoopOK (mkC tys adiesG [(0, dies0D.spec), (2, dies2D.spec)]) dies0D.spec (loopB 0 (bodyOf (fnOf Try.prog 4))) :=
  loopD_ok1 (fun _ => rfl) (fun x => congrFun dies0_round x) (fun (x : (Bool × Int × Int × Int × Unit) × DRules × DPort × Unit) => (61 - x.1.2.2.2.1).toNat) fun (x : (Bool × Int × Int × Int × Unit) × DRules × DPort × Unit) hp => by
    obtain ⟨⟨b, h, n, i, ⟨⟩⟩, r, p, ⟨⟩⟩ := x
    have hp : pre0 h n i r p := hp
    simp only [Tree.holds]
    refine ⟨fun hc => ?_, fun hc => ?_⟩
    · have hi : i ≤ 60 := by simpa using hc
      obtain ⟨d1, d2, d3⟩ := dies_step hp hi
      obtain ⟨a1, a2, a3, a4, a5, a6, a7, a8, _, _⟩ := hp
      refine ⟨fun _ => by omega, fun hb => ?_, fun _ => ⟨by omega, _, rfl, d3, ?_, rfl⟩⟩
      · rw [d1, d2, geqL] at hb
        simp at hb
      · have e : IntKind.i64.wrap (i + 1) = i + 1 := i64_id (by omega) (by omega)
        show (61 - IntKind.i64.wrap (i + 1)).toNat < (61 - i).toNat
        omega
    · have hi : ¬ i ≤ 60 := by simpa using hc
      obtain ⟨a1, a2, a3, a4, a5, a6, a7, a8, rfl, rfl⟩ := hp
      have hi : i = 61 := by omega
      subst hi
      refine ⟨_, rfl, ?_⟩
      have e : (61 : Int) + r.1 - 2 = 59 + r.1 := by omega
      rw [e]
      rfl
theorem dies2_loop : LoopOK (mkC tys adiesG [(0, dies0D.spec), (2, dies2D.spec)]) dies2D.spec (loopB 2 (bodyOf (fnOf Try.prog 4))) :=
  loopD_ok1 (fun _ => rfl) (fun x => congrFun dies2_round x) (fun (x : (Bool × Int × Int × Unit) × DRules × DPort × Unit) => (100 - x.1.2.2.1).toNat) fun (x : (Bool × Int × Int × Unit) × DRules × DPort × Unit) hp => by
    obtain ⟨⟨b, n, j, ⟨⟩⟩, r, p, ⟨⟩⟩ := x
    have hp : pre2 j r p := hp
    simp only [Tree.holds]
    refine ⟨fun hc => ?_, fun hc => ?_⟩
    · have hj : j ≤ r.2.1 := by simpa using hc
      obtain ⟨d1, d2, d3⟩ := dead_step hp hj
      obtain ⟨a1, a2, a3, a4, _, _⟩ := hp
      refine ⟨fun hb => ?_, fun _ => ⟨_, rfl, d2, ?_, ?_⟩⟩
      · rw [d1, geqL] at hb
        simp at hb
      · have e : IntKind.i64.wrap (j + 1) = j + 1 := i64_id (by omega) (by omega)
        show (100 - IntKind.i64.wrap (j + 1)).toNat < (100 - j).toNat
        omega
      · show (Ex.exit 2, ((b, n, r.2.1 + 1, ()), r, runP r (r.2.1 + 1 - IntKind.i64.wrap (j + 1)).toNat (tickF p r).1, ())) = (Ex.exit 2, ((b, n, r.2.1 + 1, ()), r, runP r (r.2.1 + 1 - j).toNat p, ()))
        rw [d3]
    · have hj : ¬ j ≤ r.2.1 := by simpa using hc
      obtain ⟨a1, a2, a3, a4, _, _⟩ := hp
      have hj : j = r.2.1 + 1 := by omega
      subst hj
      refine ⟨_, rfl, ?_⟩
      show (Ex.exit 2, ((b, n, r.2.1 + 1, ()), r, runP r (r.2.1 + 1 - (r.2.1 + 1)).toNat p, ())) = _
      rw [show (r.2.1 + 1 - (r.2.1 + 1)).toNat = 0 by omega]
      rfl
theorem dies_tree : (fun x : List Int => evFn (mkC tys adiesG [(0, dies0D.spec), (2, dies2D.spec)]) (fnOf Try.prog 4) (resL adiesC.args x) adiesC.res) =
  (fun x =>
    Tree.need
      (IntKind.wrap IntKind.u64
          (IntKind.wrap IntKind.i64 (IntKind.wrap IntKind.i64 ((2 : Int) + IntKind.wrap IntKind.i64 (Int.tmod (IntKind.wrap IntKind.u64 (List.getD x (1 : Nat) (0 : Int))) (9 : Int))) - (1 : Int))) ≠
        (0 : Int))
      (Tree.need
        (pre0
          (IntKind.wrap IntKind.i64
            ((1 : Int) +
              IntKind.wrap IntKind.i64
                (Int.tmod (IntKind.wrap IntKind.u64 (List.getD x (2 : Nat) (0 : Int)))
                  (IntKind.wrap IntKind.u64
                    (IntKind.wrap IntKind.i64
                      (IntKind.wrap IntKind.i64 ((2 : Int) + IntKind.wrap IntKind.i64 (Int.tmod (IntKind.wrap IntKind.u64 (List.getD x (1 : Nat) (0 : Int))) (9 : Int))) - (1 : Int)))))))
          (0 : Int) (1 : Int)
          (IntKind.wrap IntKind.i64 ((1 : Int) + IntKind.wrap IntKind.i64 (Int.tmod (IntKind.wrap IntKind.u64 (List.getD x (0 : Nat) (0 : Int))) (4 : Int))),
            IntKind.wrap IntKind.i64 ((2 : Int) + IntKind.wrap IntKind.i64 (Int.tmod (IntKind.wrap IntKind.u64 (List.getD x (1 : Nat) (0 : Int))) (9 : Int))), (2 : Int), (3 : Int))
          ((2 : Int), ((0 : Int), (0 : Int)), ((0 : Int), (0 : Int)), (0 : Int), (0 : Int), (0 : Int), [], ((0 : Int), []), []))
        (Tree.need
          (pre2 (1 : Int)
            (IntKind.wrap IntKind.i64 ((1 : Int) + IntKind.wrap IntKind.i64 (Int.tmod (IntKind.wrap IntKind.u64 (List.getD x (0 : Nat) (0 : Int))) (4 : Int))),
              IntKind.wrap IntKind.i64 ((2 : Int) + IntKind.wrap IntKind.i64 (Int.tmod (IntKind.wrap IntKind.u64 (List.getD x (1 : Nat) (0 : Int))) (9 : Int))), (2 : Int), (3 : Int))
            (heardF
              (portAt
                ((60 : Int) %
                  IntKind.wrap IntKind.i64
                    ((1 : Int) +
                      IntKind.wrap IntKind.i64
                        (Int.tmod (IntKind.wrap IntKind.u64 (List.getD x (2 : Nat) (0 : Int)))
                          (IntKind.wrap IntKind.u64
                            (IntKind.wrap IntKind.i64
                              (IntKind.wrap IntKind.i64 ((2 : Int) + IntKind.wrap IntKind.i64 (Int.tmod (IntKind.wrap IntKind.u64 (List.getD x (1 : Nat) (0 : Int))) (9 : Int))) - (1 : Int)))))))
                (waitAt (IntKind.wrap IntKind.i64 ((1 : Int) + IntKind.wrap IntKind.i64 (Int.tmod (IntKind.wrap IntKind.u64 (List.getD x (0 : Nat) (0 : Int))) (4 : Int)))) (61 : Int)))))
          (Tree.need (IntKind.wrap IntKind.i64 ((1 : Int) + IntKind.wrap IntKind.i64 (Int.tmod (IntKind.wrap IntKind.u64 (List.getD x (0 : Nat) (0 : Int))) (4 : Int))) ≠ (0 : Int))
            (Tree.leaf
              (bif
                  ((59 : Int) + IntKind.wrap IntKind.i64 ((1 : Int) + IntKind.wrap IntKind.i64 (Int.tmod (IntKind.wrap IntKind.u64 (List.getD x (0 : Nat) (0 : Int))) (4 : Int)))) /
                      IntKind.wrap IntKind.i64 ((1 : Int) + IntKind.wrap IntKind.i64 (Int.tmod (IntKind.wrap IntKind.u64 (List.getD x (0 : Nat) (0 : Int))) (4 : Int))) ==
                    IntKind.wrap IntKind.i64
                      (IntKind.wrap IntKind.i64
                          (Int.tdiv (59 : Int) (IntKind.wrap IntKind.i64 ((1 : Int) + IntKind.wrap IntKind.i64 (Int.tmod (IntKind.wrap IntKind.u64 (List.getD x (0 : Nat) (0 : Int))) (4 : Int))))) +
                        (1 : Int)) then
                true
              else false)))))) := by kernel_rfl
theorem adies_ok : CtrOK Try.prog 4 adiesC :=
  fun_ok (G := adiesG) (Λ := [(0, dies0D.spec), (2, dies2D.spec)]) tysOK adiesG_ok mixed (by kernel_rfl) (by kernel_rfl) (by kernel_rfl) (by kernel_rfl) (lp_cons dies0_loop (lp_cons dies2_loop lp_nil)) fun (x : List Int) hw _ => by
    rw [congrFun dies_tree x]
    obtain ⟨q0, a1, a2, e0, w0⟩ := smallMod (List.getD x 0 0) (m := 4) (by omega) (by omega)
    obtain ⟨q1, b1, b2, e1, w1⟩ := smallMod (List.getD x 1 0) (m := 9) (by omega) (by omega)
    obtain ⟨q2, c1, c2, e2, w2⟩ := smallMod (List.getD x 2 0) (m := 2 + q1 - 1) (by omega) (by omega)
    have f0 : IntKind.i64.wrap (1 + q0) = 1 + q0 := i64_id (by omega) (by omega)
    have f1 : IntKind.i64.wrap (2 + q1) = 2 + q1 := i64_id (by omega) (by omega)
    have f2 : IntKind.i64.wrap (2 + q1 - 1) = 2 + q1 - 1 := i64_id (by omega) (by omega)
    have f3 : IntKind.u64.wrap (2 + q1 - 1) = 2 + q1 - 1 := u64_id (by omega) (by omega)
    have f4 : IntKind.i64.wrap (1 + q2) = 1 + q2 := i64_id (by omega) (by omega)
    simp only [e0, w0, f0, e1, w1, f1, f2, f3, e2, w2, f4, Tree.holds]
    clear hw
    refine ⟨by omega, ⟨by simp only; omega, by simp only; omega, by simp only; omega, by simp only; omega, by omega, by simp only; omega, by omega, by omega, ?_, ?_⟩, ⟨by simp only; omega, by simp only; omega, by omega, by simp only; omega, rfl, rfl⟩, by omega, ?_⟩
    · rw [show ((1 : Int) - 1) % (1 + q2) = 0 by simp]
      rfl
    · clear e0
      have hq : q0 = 0 ∨ q0 = 1 ∨ q0 = 2 ∨ q0 = 3 := by omega
      rcases hq with rfl | rfl | rfl | rfl <;> rfl
    · rw [count_law (by omega) (by omega)]
      rfl
end Go.Ev.P
