/- Ends that are the same, and what is said of a tick. -/
import Derived.Test.YtohodbfoeejbjaaPAlive2
import Derived.Test.YtohodbfoeejbjaaEvValid
set_option linter.unusedVariables false
set_option linter.unusedSimpArgs false
namespace Go.Ev.P
open Go.Proofs

def ksameC : Ctr := { args := [.sl gKept, .sl gKept], res := [.bool], pre := some (fun (x : List DKept × List DKept) => x.1 = x.2), fn := fun _ => true }
def ksameD : LoopD where
  prom := []
  ts := [(0, .val (.sl gKept)), (1, .val (.sl gKept)), (4, .val .bool), (12, .val (.int .i64)), (13, .val (.int .i64))]
  bs := []
  pre := fun (x : (List DKept × List DKept × Bool × Int × Int × Unit) × Unit) => x.1.1 = x.1.2.1 ∧ 0 ≤ x.1.2.2.2.2.1 ∧ x.1.2.2.2.2.1 ≤ x.1.2.2.2.1 ∧ x.1.2.2.2.1 = x.1.1.length ∧ x.1.2.2.2.1 ≤ 140737488355328
  out := fun (x : (List DKept × List DKept × Bool × Int × Int × Unit) × Unit) => .leaf (.exit 0, ((x.1.1, x.1.2.1, x.1.2.2.1, x.1.2.2.2.1, x.1.2.2.2.1, ()), ()))
theorem ksame_round : (fun x : (List DKept × List DKept × Bool × Int × Int × Unit) × Unit => roundOf (mkC tys [] [(0, ksameD.spec)]) ksameD (loopB 0 (bodyOf (fnOf Try.prog 123))) x) =
  (fun x =>
    Tree.br (decide (x.1.2.2.2.2.1 < x.1.2.2.2.1))
      (Tree.need ((0 : Int) ≤ x.1.2.2.2.2.1 ∧ x.1.2.2.2.2.1 < (↑(List.length x.1.1) : Int))
        (Tree.need ((0 : Int) ≤ x.1.2.2.2.2.1 ∧ x.1.2.2.2.2.1 < (↑(List.length x.1.2.1) : Int))
          (Tree.br
            (!geq (GTy.prod (GTy.int IntKind.i64) (GTy.prod GTy.str (GTy.prod (GTy.int IntKind.i64) (GTy.int IntKind.i64))))
                (List.getD x.1.1 (Int.toNat x.1.2.2.2.2.1) ((0 : Int), [], (0 : Int), (0 : Int))) (List.getD x.1.2.1 (Int.toNat x.1.2.2.2.2.1) ((0 : Int), [], (0 : Int), (0 : Int))))
            (Tree.leaf (Ex.ret, some ((x.1.1, x.1.2.1, false, x.1.2.2.2.1, x.1.2.2.2.2.1, ()), ())))
            (Tree.leaf (Ex.normal, some ((x.1.1, x.1.2.1, x.1.2.2.1, x.1.2.2.2.1, IntKind.wrap IntKind.i64 (x.1.2.2.2.2.1 + (1 : Int)), ()), ()))))))
      (Tree.leaf (Ex.exit (0 : Nat), some ((x.1.1, x.1.2.1, x.1.2.2.1, x.1.2.2.2.1, x.1.2.2.2.2.1, ()), ())))) := by kernel_rfl
theorem ksame_loop : LoopOK (mkC tys [] [(0, ksameD.spec)]) ksameD.spec (loopB 0 (bodyOf (fnOf Try.prog 123))) :=
  loopD_ok1 (fun _ => rfl) (fun x => congrFun ksame_round x) (fun (x : (List DKept × List DKept × Bool × Int × Int × Unit) × Unit) => (x.1.2.2.2.1 - x.1.2.2.2.2.1).toNat) fun (x : (List DKept × List DKept × Bool × Int × Int × Unit) × Unit) hp => by
    obtain ⟨⟨l, l2, b, n, i, ⟨⟩⟩, ⟨⟩⟩ := x
    obtain ⟨h0, h1, h2, h3, h4⟩ := hp
    simp only at h0 h1 h2 h3 h4
    subst h0
    simp only [Tree.holds]
    refine ⟨fun h => ?_, fun h => ?_⟩
    · have h' : i < n := by simpa using h
      have e : IntKind.i64.wrap (i + 1) = i + 1 := i64_id (by omega) (by omega)
      refine ⟨⟨h1, by omega⟩, ⟨h1, by omega⟩, fun hc => ?_, fun _ => ⟨_, rfl, ⟨rfl, ?_, ?_, h3, h4⟩, ?_, rfl⟩⟩
      · rw [geqKept] at hc; cases hc
      · show 0 ≤ IntKind.i64.wrap (i + 1); omega
      · show IntKind.i64.wrap (i + 1) ≤ n; omega
      · show (n - IntKind.i64.wrap (i + 1)).toNat < (n - i).toNat; omega
    · have h' : ¬ i < n := by simpa using h
      have hi : i = n := by omega
      subst hi
      exact ⟨_, rfl, rfl⟩
theorem ksame_tree : (fun x : List DKept × List DKept => evFn (mkC tys [] [(0, ksameD.spec)]) (fnOf Try.prog 123) (resL ksameC.args x) ksameC.res) =
  (fun x =>
    Tree.br ((↑(List.length x.1) : Int) != (↑(List.length x.2) : Int)) (Tree.leaf false)
      (Tree.need
        (x.1 = x.2 ∧ (0 : Int) ≤ (0 : Int) ∧ (0 : Int) ≤ (↑(List.length x.1) : Int) ∧ (↑(List.length x.1) : Int) = (↑(List.length x.1) : Int) ∧ (↑(List.length x.1) : Int) ≤ (140737488355328 : Int))
        (Tree.leaf true))) := by kernel_rfl
theorem ksame_ok : CtrOK Try.prog 123 ksameC :=
  fun_ok (G := []) (Λ := [(0, ksameD.spec)]) tysOK ctrs_nil mixed (by kernel_rfl) (by kernel_rfl) (by kernel_rfl) (by kernel_rfl) (lp_cons ksame_loop lp_nil) fun (x : List DKept × List DKept) hw hpre => by
    rw [congrFun ksame_tree x]
    have he : x.1 = x.2 := hpre _ rfl
    obtain ⟨a, b⟩ := x
    simp only at he
    subst he
    have ha : wt (.sl gKept) a := hw.1
    have hl : a.length ≤ 140737488355328 := ha.1
    simp only [Tree.holds]
    exact ⟨fun h => by simp at h, fun _ => ⟨⟨trivial, by omega, by omega, trivial, by omega⟩, rfl⟩⟩
def psameC : Ctr := { args := [gPart, gPart], res := [.bool], pre := some (fun (x : DPart × DPart) => x.1 = x.2), fn := fun _ => true }
def psameD : LoopD where
  prom := []
  ts := [(2, .ptr 2 gPart), (3, .ptr 3 gPart), (4, .val .bool), (43, .val (.int .i64)), (44, .val (.int .i64))]
  bs := [(2, .var gPart), (3, .var gPart)]
  pre := fun (x : (Bool × Int × Int × Unit) × DPart × DPart × Unit) => x.2.1 = x.2.2.1 ∧ 0 ≤ x.1.2.2.1 ∧ x.1.2.2.1 ≤ x.1.2.1 ∧ x.1.2.1 = x.2.1.2.2.2.2.length ∧ x.1.2.1 ≤ 140737488355328
  out := fun (x : (Bool × Int × Int × Unit) × DPart × DPart × Unit) => .leaf (.exit 0, ((x.1.1, x.1.2.1, x.1.2.1, ()), x.2.1, x.2.2.1, ()))
theorem psame_round : (fun x : (Bool × Int × Int × Unit) × DPart × DPart × Unit => roundOf (mkC tys [] [(0, psameD.spec)]) psameD (loopB 0 (bodyOf (fnOf Try.prog 165))) x) =
  (fun x =>
    Tree.br (decide (x.1.2.2.1 < x.1.2.1))
      (Tree.need ((0 : Int) ≤ x.1.2.2.1 ∧ x.1.2.2.1 < (↑(List.length x.2.1.2.2.2.2) : Int))
        (Tree.need ((0 : Int) ≤ x.1.2.2.1 ∧ x.1.2.2.1 < (↑(List.length x.2.2.1.2.2.2.2) : Int))
          (Tree.br
            (!geq (GTy.prod (GTy.int IntKind.i64) (GTy.prod (GTy.int IntKind.i64) (GTy.prod (GTy.int IntKind.u32) (GTy.int IntKind.i64))))
                (List.getD x.2.1.2.2.2.2 (Int.toNat x.1.2.2.1) ((0 : Int), (0 : Int), (0 : Int), (0 : Int)))
                (List.getD x.2.2.1.2.2.2.2 (Int.toNat x.1.2.2.1) ((0 : Int), (0 : Int), (0 : Int), (0 : Int))))
            (Tree.leaf (Ex.ret, some ((false, x.1.2.1, x.1.2.2.1, ()), x.2.1, x.2.2.1, ())))
            (Tree.leaf (Ex.normal, some ((x.1.1, x.1.2.1, IntKind.wrap IntKind.i64 (x.1.2.2.1 + (1 : Int)), ()), x.2.1, x.2.2.1, ()))))))
      (Tree.leaf (Ex.exit (0 : Nat), some ((x.1.1, x.1.2.1, x.1.2.2.1, ()), x.2.1, x.2.2.1, ())))) := by kernel_rfl
theorem psame_loop : LoopOK (mkC tys [] [(0, psameD.spec)]) psameD.spec (loopB 0 (bodyOf (fnOf Try.prog 165))) :=
  loopD_ok1 (fun _ => rfl) (fun x => congrFun psame_round x) (fun (x : (Bool × Int × Int × Unit) × DPart × DPart × Unit) => (x.1.2.1 - x.1.2.2.1).toNat) fun (x : (Bool × Int × Int × Unit) × DPart × DPart × Unit) hp => by
    obtain ⟨⟨b, n, i, ⟨⟩⟩, p, p2, ⟨⟩⟩ := x
    obtain ⟨h0, h1, h2, h3, h4⟩ := hp
    simp only at h0 h1 h2 h3 h4
    subst h0
    simp only [Tree.holds]
    refine ⟨fun h => ?_, fun h => ?_⟩
    · have h' : i < n := by simpa using h
      have e : IntKind.i64.wrap (i + 1) = i + 1 := i64_id (by omega) (by omega)
      refine ⟨⟨h1, by omega⟩, ⟨h1, by omega⟩, fun hc => ?_, fun _ => ⟨_, rfl, ⟨rfl, ?_, ?_, h3, h4⟩, ?_, rfl⟩⟩
      · rw [geqItem] at hc; cases hc
      · show 0 ≤ IntKind.i64.wrap (i + 1); omega
      · show IntKind.i64.wrap (i + 1) ≤ n; omega
      · show (n - IntKind.i64.wrap (i + 1)).toNat < (n - i).toNat; omega
    · have h' : ¬ i < n := by simpa using h
      have hi : i = n := by omega
      subst hi
      exact ⟨_, rfl, rfl⟩
theorem psame_tree : (fun x : DPart × DPart => evFn (mkC tys [] [(0, psameD.spec)]) (fnOf Try.prog 165) (resL psameC.args x) psameC.res) =
  (fun x =>
    Tree.br
      (bif
          bif
              bif bif x.1.1 != x.2.1 then true else !geq (GTy.prod (GTy.prod (GTy.int IntKind.u32) (GTy.int IntKind.u32)) (GTy.prod (GTy.int IntKind.u32) (GTy.int IntKind.u32))) x.1.2.1 x.2.2.1 then
                true
              else x.1.2.2.1 != x.2.2.2.1 then
            true
          else !geq GTy.bool x.1.2.2.2.1 x.2.2.2.2.1 then
        true
      else (↑(List.length x.1.2.2.2.2) : Int) != (↑(List.length x.2.2.2.2.2) : Int))
      (Tree.leaf false)
      (Tree.need
        (x.1 = x.2 ∧
          (0 : Int) ≤ (0 : Int) ∧
            (0 : Int) ≤ (↑(List.length x.1.2.2.2.2) : Int) ∧ (↑(List.length x.1.2.2.2.2) : Int) = (↑(List.length x.1.2.2.2.2) : Int) ∧ (↑(List.length x.1.2.2.2.2) : Int) ≤ (140737488355328 : Int))
        (Tree.leaf true))) := by kernel_rfl
theorem psame_ok : CtrOK Try.prog 165 psameC :=
  fun_ok (G := []) (Λ := [(0, psameD.spec)]) tysOK ctrs_nil mixed (by kernel_rfl) (by kernel_rfl) (by kernel_rfl) (by kernel_rfl) (lp_cons psame_loop lp_nil) fun (x : DPart × DPart) hw hpre => by
    rw [congrFun psame_tree x]
    have he : x.1 = x.2 := hpre _ rfl
    obtain ⟨a, b⟩ := x
    simp only at he
    subst he
    have ha : wt gPart a := hw.1
    have hl : a.2.2.2.2.length ≤ 140737488355328 := ha.2.2.2.2.1
    simp only [Tree.holds]
    exact ⟨fun h => by simp [geqTwo, geqL] at h, fun _ => ⟨⟨trivial, by omega, by omega, trivial, by omega⟩, rfl⟩⟩
def wsameC : Ctr := { args := [gWin, gWin], res := [.bool], pre := some (fun (x : DWin × DWin) => x.1 = x.2), fn := fun _ => true }
def wsameG : List (Nat × Ctr) := [(165, psameC)]
def wsameD : LoopD where
  prom := []
  ts := [(2, .ptr 2 gWin), (3, .ptr 3 gWin), (4, .val .bool), (22, .val (.int .i64)), (23, .val (.int .i64))]
  bs := [(2, .var gWin), (3, .var gWin)]
  pre := fun (x : (Bool × Int × Int × Unit) × DWin × DWin × Unit) => x.2.1 = x.2.2.1 ∧ 0 ≤ x.1.2.2.1 ∧ x.1.2.2.1 ≤ x.1.2.1 ∧ x.1.2.1 = x.2.1.2.length ∧ x.1.2.1 ≤ 140737488355328
  out := fun (x : (Bool × Int × Int × Unit) × DWin × DWin × Unit) => .leaf (.exit 0, ((x.1.1, x.1.2.1, x.1.2.1, ()), x.2.1, x.2.2.1, ()))
theorem wsame_round : (fun x : (Bool × Int × Int × Unit) × DWin × DWin × Unit => roundOf (mkC tys wsameG [(0, wsameD.spec)]) wsameD (loopB 0 (bodyOf (fnOf Try.prog 124))) x) =
  (fun x =>
    Tree.br (decide (x.1.2.2.1 < x.1.2.1))
      (Tree.need ((0 : Int) ≤ x.1.2.2.1 ∧ x.1.2.2.1 < (↑(List.length x.2.1.2) : Int))
        (Tree.need ((0 : Int) ≤ x.1.2.2.1 ∧ x.1.2.2.1 < (↑(List.length x.2.2.1.2) : Int))
          (Tree.need
            (List.getD x.2.1.2 (Int.toNat x.1.2.2.1) ((0 : Int), (((0 : Int), (0 : Int)), (0 : Int), (0 : Int)), (0 : Int), false, []) =
              List.getD x.2.2.1.2 (Int.toNat x.1.2.2.1) ((0 : Int), (((0 : Int), (0 : Int)), (0 : Int), (0 : Int)), (0 : Int), false, []))
            (Tree.br (!true) (Tree.leaf (Ex.ret, some ((false, x.1.2.1, x.1.2.2.1, ()), x.2.1, x.2.2.1, ())))
              (Tree.leaf (Ex.normal, some ((x.1.1, x.1.2.1, IntKind.wrap IntKind.i64 (x.1.2.2.1 + (1 : Int)), ()), x.2.1, x.2.2.1, ())))))))
      (Tree.leaf (Ex.exit (0 : Nat), some ((x.1.1, x.1.2.1, x.1.2.2.1, ()), x.2.1, x.2.2.1, ())))) := by kernel_rfl
theorem wsame_loop : LoopOK (mkC tys wsameG [(0, wsameD.spec)]) wsameD.spec (loopB 0 (bodyOf (fnOf Try.prog 124))) :=
  loopD_ok1 (fun _ => rfl) (fun x => congrFun wsame_round x) (fun (x : (Bool × Int × Int × Unit) × DWin × DWin × Unit) => (x.1.2.1 - x.1.2.2.1).toNat) fun (x : (Bool × Int × Int × Unit) × DWin × DWin × Unit) hp => by
    obtain ⟨⟨b, n, i, ⟨⟩⟩, p, p2, ⟨⟩⟩ := x
    obtain ⟨h0, h1, h2, h3, h4⟩ := hp
    simp only at h0 h1 h2 h3 h4
    subst h0
    simp only [Tree.holds]
    refine ⟨fun h => ?_, fun h => ?_⟩
    · have h' : i < n := by simpa using h
      have e : IntKind.i64.wrap (i + 1) = i + 1 := i64_id (by omega) (by omega)
      refine ⟨⟨h1, by omega⟩, ⟨h1, by omega⟩, trivial, fun hc => ?_, fun _ => ⟨_, rfl, ⟨rfl, ?_, ?_, h3, h4⟩, ?_, rfl⟩⟩
      · cases hc
      · show 0 ≤ IntKind.i64.wrap (i + 1); omega
      · show IntKind.i64.wrap (i + 1) ≤ n; omega
      · show (n - IntKind.i64.wrap (i + 1)).toNat < (n - i).toNat; omega
    · have h' : ¬ i < n := by simpa using h
      have hi : i = n := by omega
      subst hi
      exact ⟨_, rfl, rfl⟩
theorem wsame_tree : (fun x : DWin × DWin => evFn (mkC tys wsameG [(0, wsameD.spec)]) (fnOf Try.prog 124) (resL wsameC.args x) wsameC.res) =
  (fun x =>
    Tree.br (bif x.1.1 != x.2.1 then true else (↑(List.length x.1.2) : Int) != (↑(List.length x.2.2) : Int)) (Tree.leaf false)
      (Tree.need
        (x.1 = x.2 ∧
          (0 : Int) ≤ (0 : Int) ∧ (0 : Int) ≤ (↑(List.length x.1.2) : Int) ∧ (↑(List.length x.1.2) : Int) = (↑(List.length x.1.2) : Int) ∧ (↑(List.length x.1.2) : Int) ≤ (140737488355328 : Int))
        (Tree.leaf true))) := by kernel_rfl
theorem wsame_ok : CtrOK Try.prog 124 wsameC :=
  fun_ok (G := wsameG) (Λ := [(0, wsameD.spec)]) tysOK (ctrs_cons psame_ok ctrs_nil) mixed (by kernel_rfl) (by kernel_rfl) (by kernel_rfl) (by kernel_rfl) (lp_cons wsame_loop lp_nil) fun (x : DWin × DWin) hw hpre => by
    rw [congrFun wsame_tree x]
    have he : x.1 = x.2 := hpre _ rfl
    obtain ⟨a, b⟩ := x
    simp only at he
    subst he
    have ha : wt gWin a := hw.1
    have hl : a.2.length ≤ 140737488355328 := ha.2.1
    simp only [Tree.holds]
    exact ⟨fun h => by simp at h, fun _ => ⟨⟨trivial, by omega, by omega, trivial, by omega⟩, rfl⟩⟩
def msameC : Ctr := { args := [gMrl, gMrl], res := [.bool], pre := some (fun (x : DMrl × DMrl) => x.1 = x.2), fn := fun _ => true }
def msameG : List (Nat × Ctr) := [(123, ksameC), (124, wsameC)]
def msameD : LoopD where
  prom := []
  ts := [(2, .ptr 2 gMrl), (3, .ptr 3 gMrl), (4, .val .bool), (38, .val (.int .i64)), (39, .val (.int .i64))]
  bs := [(2, .var gMrl), (3, .var gMrl)]
  pre := fun (x : (Bool × Int × Int × Unit) × DMrl × DMrl × Unit) => x.2.1 = x.2.2.1 ∧ 0 ≤ x.1.2.2.1 ∧ x.1.2.2.1 ≤ x.1.2.1 ∧ x.1.2.1 = x.2.1.2.2.2.length ∧ x.1.2.1 ≤ 140737488355328
  out := fun (x : (Bool × Int × Int × Unit) × DMrl × DMrl × Unit) => .leaf (.exit 0, ((x.1.1, x.1.2.1, x.1.2.1, ()), x.2.1, x.2.2.1, ()))
theorem msame_round : (fun x : (Bool × Int × Int × Unit) × DMrl × DMrl × Unit => roundOf (mkC tys msameG [(0, msameD.spec)]) msameD (loopB 0 (bodyOf (fnOf Try.prog 70))) x) =
  (fun x =>
    Tree.br (decide (x.1.2.2.1 < x.1.2.1))
      (Tree.need ((0 : Int) ≤ x.1.2.2.1 ∧ x.1.2.2.1 < (↑(List.length x.2.1.2.2.2) : Int))
        (Tree.need ((0 : Int) ≤ x.1.2.2.1 ∧ x.1.2.2.1 < (↑(List.length x.2.2.1.2.2.2) : Int))
          (Tree.br
            (!geq (GTy.prod (GTy.int IntKind.i64) (GTy.prod (GTy.int IntKind.i64) (GTy.prod (GTy.int IntKind.u32) (GTy.int IntKind.i64))))
                (List.getD x.2.1.2.2.2 (Int.toNat x.1.2.2.1) ((0 : Int), (0 : Int), (0 : Int), (0 : Int))) (List.getD x.2.2.1.2.2.2 (Int.toNat x.1.2.2.1) ((0 : Int), (0 : Int), (0 : Int), (0 : Int))))
            (Tree.leaf (Ex.ret, some ((false, x.1.2.1, x.1.2.2.1, ()), x.2.1, x.2.2.1, ())))
            (Tree.leaf (Ex.normal, some ((x.1.1, x.1.2.1, IntKind.wrap IntKind.i64 (x.1.2.2.1 + (1 : Int)), ()), x.2.1, x.2.2.1, ()))))))
      (Tree.leaf (Ex.exit (0 : Nat), some ((x.1.1, x.1.2.1, x.1.2.2.1, ()), x.2.1, x.2.2.1, ())))) := by kernel_rfl
theorem msame_loop : LoopOK (mkC tys msameG [(0, msameD.spec)]) msameD.spec (loopB 0 (bodyOf (fnOf Try.prog 70))) :=
  loopD_ok1 (fun _ => rfl) (fun x => congrFun msame_round x) (fun (x : (Bool × Int × Int × Unit) × DMrl × DMrl × Unit) => (x.1.2.1 - x.1.2.2.1).toNat) fun (x : (Bool × Int × Int × Unit) × DMrl × DMrl × Unit) hp => by
    obtain ⟨⟨b, n, i, ⟨⟩⟩, p, p2, ⟨⟩⟩ := x
    obtain ⟨h0, h1, h2, h3, h4⟩ := hp
    simp only at h0 h1 h2 h3 h4
    subst h0
    simp only [Tree.holds]
    refine ⟨fun h => ?_, fun h => ?_⟩
    · have h' : i < n := by simpa using h
      have e : IntKind.i64.wrap (i + 1) = i + 1 := i64_id (by omega) (by omega)
      refine ⟨⟨h1, by omega⟩, ⟨h1, by omega⟩, fun hc => ?_, fun _ => ⟨_, rfl, ⟨rfl, ?_, ?_, h3, h4⟩, ?_, rfl⟩⟩
      · rw [geqItem] at hc; cases hc
      · show 0 ≤ IntKind.i64.wrap (i + 1); omega
      · show IntKind.i64.wrap (i + 1) ≤ n; omega
      · show (n - IntKind.i64.wrap (i + 1)).toNat < (n - i).toNat; omega
    · have h' : ¬ i < n := by simpa using h
      have hi : i = n := by omega
      subst hi
      exact ⟨_, rfl, rfl⟩
theorem msame_tree : (fun x : DMrl × DMrl => evFn (mkC tys msameG [(0, msameD.spec)]) (fnOf Try.prog 70) (resL msameC.args x) msameC.res) =
  (fun x =>
    Tree.need (((x.1.1 != x.2.1) == false && true) = true → x.1.2.1 = x.2.2.1)
      (Tree.need (((bif x.1.1 != x.2.1 then true else !true) == false && true) = true → x.1.2.2.1 = x.2.2.2.1)
        (Tree.br (bif bif bif x.1.1 != x.2.1 then true else !true then true else !true then true else (↑(List.length x.1.2.2.2) : Int) != (↑(List.length x.2.2.2.2) : Int)) (Tree.leaf false)
          (Tree.need
            (x.1 = x.2 ∧
              (0 : Int) ≤ (0 : Int) ∧
                (0 : Int) ≤ (↑(List.length x.1.2.2.2) : Int) ∧ (↑(List.length x.1.2.2.2) : Int) = (↑(List.length x.1.2.2.2) : Int) ∧ (↑(List.length x.1.2.2.2) : Int) ≤ (140737488355328 : Int))
            (Tree.leaf true))))) := by kernel_rfl
theorem msame_ok : CtrOK Try.prog 70 msameC :=
  fun_ok (G := msameG) (Λ := [(0, msameD.spec)]) tysOK (ctrs_cons ksame_ok (ctrs_cons wsame_ok ctrs_nil)) mixed (by kernel_rfl) (by kernel_rfl) (by kernel_rfl) (by kernel_rfl) (lp_cons msame_loop lp_nil) fun (x : DMrl × DMrl) hw hpre => by
    rw [congrFun msame_tree x]
    have he : x.1 = x.2 := hpre _ rfl
    obtain ⟨a, b⟩ := x
    simp only at he
    subst he
    have ha : wt gMrl a := hw.1
    have hl : a.2.2.2.length ≤ 140737488355328 := ha.2.2.2.1
    simp only [Tree.holds]
    exact ⟨fun _ => trivial, fun _ => trivial, fun h => by simp at h, fun _ => ⟨⟨trivial, by omega, by omega, trivial, by omega⟩, rfl⟩⟩
def osameC : Ctr := { args := [gPort, gPort], res := [.bool], pre := some (fun (x : DPort × DPort) => x.1 = x.2), fn := fun _ => true }
def osameG : List (Nat × Ctr) := [(70, msameC)]
theorem osame_tree : (fun x : DPort × DPort => evFn (mkC tys osameG []) (fnOf Try.prog 17) (resL osameC.args x) osameC.res) =
  (fun x =>
    Tree.need
      (((bif
                  bif
                      bif bif x.1.1 == x.2.1 then geq (GTy.prod (GTy.int IntKind.u32) (GTy.int IntKind.u32)) x.1.2.1 x.2.2.1 else false then
                        geq (GTy.prod (GTy.int IntKind.u32) (GTy.int IntKind.u32)) x.1.2.2.1 x.2.2.2.1
                      else false then
                    x.1.2.2.2.1 == x.2.2.2.2.1
                  else false then
                x.1.2.2.2.2.1 == x.2.2.2.2.2.1
              else false) ==
              true &&
            true) =
          true →
        x.1.2.2.2.2.2 = x.2.2.2.2.2.2)
      (Tree.leaf
        (bif
            bif
                bif
                    bif bif x.1.1 == x.2.1 then geq (GTy.prod (GTy.int IntKind.u32) (GTy.int IntKind.u32)) x.1.2.1 x.2.2.1 else false then
                      geq (GTy.prod (GTy.int IntKind.u32) (GTy.int IntKind.u32)) x.1.2.2.1 x.2.2.2.1
                    else false then
                  x.1.2.2.2.1 == x.2.2.2.2.1
                else false then
              x.1.2.2.2.2.1 == x.2.2.2.2.2.1
            else false then
          true
        else false))) := by kernel_rfl
theorem osame_ok : CtrOK Try.prog 17 osameC :=
  fun_ok (G := osameG) (Λ := []) tysOK (ctrs_cons msame_ok ctrs_nil) mixed (by kernel_rfl) (by kernel_rfl) (by kernel_rfl) (by kernel_rfl) lp_nil fun (x : DPort × DPort) hw hpre => by
    rw [congrFun osame_tree x]
    have he : x.1 = x.2 := hpre _ rfl
    obtain ⟨a, b⟩ := x
    simp only at he
    subst he
    have ha : wt gPort a := hw.1
    simp only [Tree.holds]
    refine ⟨fun _ => trivial, ?_⟩
    simp [geqOne, osameC]
def longG : List (Nat × Ctr) := [(48, plongC)]
theorem longG_ok : CtrsOK Try.prog (fun f => lk f longG) := (ctrs_cons plong_ok ctrs_nil)
def longC : Ctr := { args := [.sl gPart], res := [.bool], pre := none, fn := fun (x : List DPart) => longF x }
def longD : LoopD where
  prom := []
  ts := [(0, .val (.sl gPart)), (2, .val .bool), (5, .val (.sl gPart)), (6, .val (.int .i64)), (7, .val (.int .i64))]
  bs := []
  pre := fun (x : (List DPart × Bool × List DPart × Int × Int × Unit) × Unit) => 0 ≤ x.1.2.2.2.2.1 ∧ x.1.2.2.2.2.1 ≤ x.1.2.2.2.1 ∧ x.1.2.2.2.1 = x.1.2.2.1.length ∧ x.1.2.2.2.1 ≤ 140737488355328
  out := fun (x : (List DPart × Bool × List DPart × Int × Int × Unit) × Unit) => .br ((x.1.2.2.1.drop x.1.2.2.2.2.1.toNat).any lgP) (.leaf (.ret, ((x.1.1, true, x.1.2.2.1, x.1.2.2.2.1, firstI (x.1.2.2.1.drop x.1.2.2.2.2.1.toNat) x.1.2.2.2.2.1, ()), ()))) (.leaf (.exit 0, ((x.1.1, x.1.2.1, x.1.2.2.1, x.1.2.2.2.1, x.1.2.2.2.1, ()), ())))
theorem long_round : (fun x : (List DPart × Bool × List DPart × Int × Int × Unit) × Unit => roundOf (mkC tys longG [(0, longD.spec)]) longD (loopB 0 (bodyOf (fnOf Try.prog 13))) x) =
  (fun x =>
    Tree.br (decide (x.1.2.2.2.2.1 < x.1.2.2.2.1))
      (Tree.need ((0 : Int) ≤ x.1.2.2.2.2.1 ∧ x.1.2.2.2.2.1 < (↑(List.length x.1.2.2.1) : Int))
        (Tree.br (decide ((↑(List.length (List.getD x.1.2.2.1 (Int.toNat x.1.2.2.2.2.1) ((0 : Int), (((0 : Int), (0 : Int)), (0 : Int), (0 : Int)), (0 : Int), false, [])).2.2.2.2) : Int) > (100 : Int)))
          (Tree.leaf (Ex.ret, some ((x.1.1, true, x.1.2.2.1, x.1.2.2.2.1, x.1.2.2.2.2.1, ()), ())))
          (Tree.leaf (Ex.normal, some ((x.1.1, x.1.2.1, x.1.2.2.1, x.1.2.2.2.1, IntKind.wrap IntKind.i64 (x.1.2.2.2.2.1 + (1 : Int)), ()), ())))))
      (Tree.leaf (Ex.exit (0 : Nat), some ((x.1.1, x.1.2.1, x.1.2.2.1, x.1.2.2.2.1, x.1.2.2.2.2.1, ()), ())))) := by kernel_rfl
theorem long_loop : LoopOK (mkC tys longG [(0, longD.spec)]) longD.spec (loopB 0 (bodyOf (fnOf Try.prog 13))) :=
  loopD_ok (fun x => congrFun long_round x) (fun (x : (List DPart × Bool × List DPart × Int × Int × Unit) × Unit) => (x.1.2.2.2.1 - x.1.2.2.2.2.1).toNat) fun (x : (List DPart × Bool × List DPart × Int × Int × Unit) × Unit) hp => by
    obtain ⟨⟨l0, b, l, n, i, ⟨⟩⟩, ⟨⟩⟩ := x
    obtain ⟨h1, h2, h3, h4⟩ := hp
    simp only at h1 h2 h3 h4
    simp only [Tree.holds]
    refine ⟨fun h => ?_, fun h => ?_⟩
    · have h' : i < n := by simpa using h
      have e : IntKind.i64.wrap (i + 1) = i + 1 := i64_id (by omega) (by omega)
      have hd := drop_step (l := l) ((0 : Int), (((0 : Int), (0 : Int)), (0 : Int), (0 : Int)), (0 : Int), false, []) h1 (by omega)
      have hr : 0 ≤ i ∧ i < (l.length : Int) := by omega
      generalize l.getD i.toNat ((0 : Int), (((0 : Int), (0 : Int)), (0 : Int), (0 : Int)), (0 : Int), false, []) = p at hd ⊢
      refine ⟨hr, fun hc => ⟨_, rfl, fun G hG => ?_⟩, fun hc => ⟨_, rfl, ⟨?_, ?_, h3, h4⟩, ?_, fun G hG => ?_⟩⟩
      · have hc' : lgP p = true := hc
        have hg : (l.drop i.toNat).any lgP = true := by rw [hd]; simp [hc']
        have hG' := (hG.1 hg : G _)
        rw [hd] at hG'
        simp only [firstI, hc', cond_true] at hG'
        exact hG'
      · show 0 ≤ IntKind.i64.wrap (i + 1); omega
      · show IntKind.i64.wrap (i + 1) ≤ n; omega
      · show (n - IntKind.i64.wrap (i + 1)).toNat < (n - i).toNat; omega
      · have hc' : lgP p = false := hc
        have hg : (l.drop i.toNat).any lgP = (l.drop (i + 1).toNat).any lgP := by rw [hd]; simp [hc']
        have hf : firstI (l.drop i.toNat) i = firstI (l.drop (i + 1).toNat) (i + 1) := by rw [hd]; simp only [firstI, hc', cond_false]
        have hG' : ((l.drop i.toNat).any lgP = true → G (.ret, ((l0, true, l, n, firstI (l.drop i.toNat) i, ()), ()))) ∧ ((l.drop i.toNat).any lgP = false → G (.exit 0, ((l0, b, l, n, n, ()), ()))) := hG
        rw [hg, hf] at hG'
        show ((l.drop (IntKind.i64.wrap (i + 1)).toNat).any lgP = true → G (.ret, ((l0, true, l, n, firstI (l.drop (IntKind.i64.wrap (i + 1)).toNat) (IntKind.i64.wrap (i + 1)), ()), ()))) ∧ ((l.drop (IntKind.i64.wrap (i + 1)).toNat).any lgP = false → G (.exit 0, ((l0, b, l, n, n, ()), ())))
        rw [e]
        exact hG'
    · have h' : ¬ i < n := by simpa using h
      have hi : i = n := by omega
      subst hi
      have hd : l.drop i.toNat = [] := List.drop_eq_nil_of_le (by omega)
      refine ⟨_, rfl, fun G hG => ?_⟩
      have hG' : ((l.drop i.toNat).any lgP = false → G (.exit 0, ((l0, b, l, i, i, ()), ()))) := hG.2
      rw [hd] at hG'
      exact hG' rfl
theorem long_tree : (fun x : List DPart => evFn (mkC tys longG [(0, longD.spec)]) (fnOf Try.prog 13) (resL longC.args x) longC.res) =
  (fun x =>
    Tree.need ((0 : Int) ≤ (0 : Int) ∧ (0 : Int) ≤ (↑(List.length x) : Int) ∧ (↑(List.length x) : Int) = (↑(List.length x) : Int) ∧ (↑(List.length x) : Int) ≤ (140737488355328 : Int))
      (Tree.br (List.any (List.drop (Int.toNat (0 : Int)) x) lgP) (Tree.leaf true) (Tree.leaf (decide ((↑(List.length x) : Int) > (60 : Int)))))) := by kernel_rfl
theorem long_ok : CtrOK Try.prog 13 longC :=
  fun_ok (G := longG) (Λ := [(0, longD.spec)]) tysOK longG_ok mixed (by kernel_rfl) (by kernel_rfl) (by kernel_rfl) (by kernel_rfl) (lp_cons long_loop lp_nil) fun (x : List DPart) hw _ => by
    rw [congrFun long_tree x]
    have hl : x.length ≤ 140737488355328 := (show wt (.sl gPart) x from hw).1
    have e : longC.fn x = (x.any lgP || decide ((x.length : Int) > 60)) := rfl
    rw [e]
    simp only [Tree.holds]
    refine ⟨⟨by omega, by omega, trivial, by omega⟩, fun h => ?_, fun h => ?_⟩
    · rw [show x.any lgP = true from h]; rfl
    · rw [show x.any lgP = false from h]; rfl
def asaysG : List (Nat × Ctr) := [(13, longC), (14, awake21C), (15, tickC), (16, rtickC), (17, osameC), (18, dueC), (19, rdueC), (20, heardC), (21, rheardC)]
theorem asaysG_ok : CtrsOK Try.prog (fun f => lk f asaysG) := (ctrs_cons long_ok (ctrs_cons awake21_ok (ctrs_cons tick_ok (ctrs_cons rtick_ok (ctrs_cons osame_ok (ctrs_cons due_ok (ctrs_cons rdue_ok (ctrs_cons heard_ok (ctrs_cons rheard_ok ctrs_nil)))))))))
def asaysC : Ctr := { args := [gPort, gRules], res := [.bool], pre := some (smallD [gPort, gRules]), fn := fun _ => true }
theorem asays_tree : (fun x : DPort × DRules => evFn (mkC tys asaysG []) (fnOf Try.prog 3) (resL asaysC.args x) asaysC.res) =
  (fun x =>
    Tree.br
      (bif bif decide ((↑(List.length x.1.2.2.2.2.2.2.1) : Int) > (50 : Int)) then true else decide ((↑(List.length x.1.2.2.2.2.2.2.2.2) : Int) > (100 : Int)) then true else longF x.1.2.2.2.2.2.2.2.1.2)
      (Tree.leaf true)
      (Tree.need ((tickF x.1 x.2).1 = (tickF x.1 x.2).1)
        (Tree.need
          (((bif bif bif true then geq GTy.bool (tickF x.1 x.2).2.1 (tickF x.1 x.2).2.1 else false then geq GTy.bool (tickF x.1 x.2).2.2 (tickF x.1 x.2).2.2 else false then
                    geq GTy.bool (dueF x.1) (dueF x.1)
                  else false) ==
                  true &&
                true) =
              true →
            heardF x.1 = heardF x.1)
          (Tree.leaf
            (bif
                bif
                    bif bif bif true then geq GTy.bool (tickF x.1 x.2).2.1 (tickF x.1 x.2).2.1 else false then geq GTy.bool (tickF x.1 x.2).2.2 (tickF x.1 x.2).2.2 else false then
                      geq GTy.bool (dueF x.1) (dueF x.1)
                    else false then
                  true
                else false then
              true
            else false))))) := by kernel_rfl
theorem asays_ok : CtrOK Try.prog 3 asaysC :=
  fun_ok (G := asaysG) (Λ := []) tysOK asaysG_ok mixed (by kernel_rfl) (by kernel_rfl) (by kernel_rfl) (by kernel_rfl) lp_nil fun (x : DPort × DRules) hw _ => by
    rw [congrFun asays_tree x]
    simp only [Tree.holds, geqL, BEq.rfl]
    exact ⟨fun _ => rfl, fun _ => ⟨trivial, fun _ => trivial, rfl⟩⟩
end Go.Ev.P
