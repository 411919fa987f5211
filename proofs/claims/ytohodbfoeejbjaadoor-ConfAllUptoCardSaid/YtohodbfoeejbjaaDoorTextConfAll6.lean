/- Sound costs. -/
import Derived.Conc.LoneCalls
import Derived.Conc.SmallLaws
import Derived.Lib.TrailingZeros
import Derived.Test.YtohodbfoeejbjaaDoorTextConfAll5

set_option linter.unusedVariables false
set_option linter.unusedSimpArgs false
namespace Go.Ev.D
open Go.Proofs
def soundG : List (Nat × Ctr) := [(44, upC), (108, rcostC)]
theorem soundG_ok : CtrsOK Tryd.prog (fun f => lk f soundG) := (ctrs_cons up_ok (ctrs_cons rcost_ok ctrs_nil))
def soundC : Ctr := { args := [gCosts], res := [.bool], pre := none, fn := fun (x : DCosts) => soundF x }
def soundD : LoopD where
  prom := []
  ts := [(1, .ptr 1 gCosts), (2, .val .bool), (3, .ptr 3 (.arr 16 (.int .u32))), (15, .val (.sl (.int .i64))), (16, .val (.int .i64)), (17, .val (.int .i64))]
  bs := [(1, .var gCosts), (3, .var (.arr 16 (.int .u32)))]
  pre := fun (x : (Bool × List Int × Int × Int × Unit) × DCosts × List Int × Unit) => 0 ≤ x.1.2.2.2.1 ∧ x.1.2.2.2.1 ≤ x.1.2.2.1 ∧ x.1.2.2.1 = x.1.2.1.length ∧ x.1.2.2.1 ≤ 16 ∧ ∀ n ∈ x.1.2.1, 0 ≤ n ∧ n < 16
  out := fun (x : (Bool × List Int × Int × Int × Unit) × DCosts × List Int × Unit) =>
    .br (goodL x.2.1 (x.1.2.1.drop x.1.2.2.2.1.toNat)) (.leaf (.exit 0, ((x.1.1, x.1.2.1, x.1.2.2.1, x.1.2.2.1, ()), x.2.1, fillL x.2.1 (x.1.2.1.drop x.1.2.2.2.1.toNat) x.2.2.1, ())))
      (.leaf (.ret, ((false, x.1.2.1, x.1.2.2.1, (badL x.2.1 (x.1.2.1.drop x.1.2.2.2.1.toNat) x.2.2.1 x.1.2.2.2.1).1, ()), x.2.1, (badL x.2.1 (x.1.2.1.drop x.1.2.2.2.1.toNat) x.2.2.1 x.1.2.2.2.1).2, ())))
theorem sound_round : (fun x : (Bool × List Int × Int × Int × Unit) × DCosts × List Int × Unit => roundOf (mkC tys soundG [(0, soundD.spec)]) soundD (loopB 0 (bodyOf (fnOf Tryd.prog 50))) x) =
  (fun x =>
    Tree.br (decide (x.1.2.2.2.1 < x.1.2.2.1))
      (Tree.need ((0 : Int) ≤ x.1.2.2.2.1 ∧ x.1.2.2.2.1 < (↑(List.length x.1.2.1) : Int))
        (Tree.need ((0 : Int) ≤ List.getD x.1.2.1 (Int.toNat x.1.2.2.2.1) (0 : Int) ∧ List.getD x.1.2.1 (Int.toNat x.1.2.2.2.1) (0 : Int) < (16 : Int))
          (Tree.br (!rcostF (List.getD x.2.1.2 (Int.toNat (List.getD x.1.2.1 (Int.toNat x.1.2.2.2.1) (0 : Int))) (0 : Int)))
            (Tree.leaf (Ex.ret, some ((false, x.1.2.1, x.1.2.2.1, x.1.2.2.2.1, ()), x.2.1, x.2.2.1, ())))
            (Tree.need ((0 : Int) ≤ List.getD x.1.2.1 (Int.toNat x.1.2.2.2.1) (0 : Int) ∧ List.getD x.1.2.1 (Int.toNat x.1.2.2.2.1) (0 : Int) < (16 : Int))
              (Tree.need ((0 : Int) ≤ List.getD x.1.2.1 (Int.toNat x.1.2.2.2.1) (0 : Int) ∧ List.getD x.1.2.1 (Int.toNat x.1.2.2.2.1) (0 : Int) < (16 : Int))
                (Tree.leaf
                  (Ex.normal,
                    some
                      ((x.1.1, x.1.2.1, x.1.2.2.1, IntKind.wrap IntKind.i64 (x.1.2.2.2.1 + (1 : Int)), ()), x.2.1,
                        List.set x.2.2.1 (Int.toNat (List.getD x.1.2.1 (Int.toNat x.1.2.2.2.1) (0 : Int)))
                          (List.getD x.2.1.2 (Int.toNat (List.getD x.1.2.1 (Int.toNat x.1.2.2.2.1) (0 : Int))) (0 : Int)),
                        ()))))))))
      (Tree.leaf (Ex.exit (0 : Nat), some ((x.1.1, x.1.2.1, x.1.2.2.1, x.1.2.2.2.1, ()), x.2.1, x.2.2.1, ())))) := by kernel_rfl
theorem sound_loop : LoopOK (mkC tys soundG [(0, soundD.spec)]) soundD.spec (loopB 0 (bodyOf (fnOf Tryd.prog 50))) :=
  loopD_ok (fun x => congrFun sound_round x) (fun (x : (Bool × List Int × Int × Int × Unit) × DCosts × List Int × Unit) => (x.1.2.2.1 - x.1.2.2.2.1).toNat) fun (x : (Bool × List Int × Int × Int × Unit) × DCosts × List Int × Unit) hp => by
    obtain ⟨⟨b, l, m, i, ⟨⟩⟩, c, w, ⟨⟩⟩ := x
    obtain ⟨h1, h2, h3, h4, h5⟩ := hp
    simp only at h1 h2 h3 h4 h5
    simp only [Tree.holds]
    refine ⟨fun h => ?_, fun h => ?_⟩
    · have h' : i < m := by simpa using h
      have e : IntKind.i64.wrap (i + 1) = i + 1 := i64_id (by omega) (by omega)
      have hd := drop_step (l := l) (0 : Int) h1 (by omega)
      have hn : l.getD i.toNat 0 ∈ l := by
        have : i.toNat < l.length := by omega
        simp [List.getD, this]
      have hb := h5 _ hn
      have hr : 0 ≤ i ∧ i < (l.length : Int) := by omega
      generalize l.getD i.toNat 0 = n at *
      refine ⟨hr, hb, fun hc => ⟨_, rfl, fun G hG => ?_⟩, fun hc => ⟨hb, hb, _, rfl, ⟨?_, ?_, h3, h4, h5⟩, ?_, fun G hG => ?_⟩⟩
      · have hc' : rcostF (costAt c n) = false := by simpa [costAt] using hc
        have hg : goodL c (l.drop i.toNat) = false := by rw [hd]; simp [goodL, hc']
        have hG' := (hG.2 hg : G _)
        rw [hd] at hG'
        simp only [badL, hc', cond_false] at hG'
        exact hG'
      · show 0 ≤ IntKind.i64.wrap (i + 1); omega
      · show IntKind.i64.wrap (i + 1) ≤ m; omega
      · show (m - IntKind.i64.wrap (i + 1)).toNat < (m - i).toNat; omega
      · have hc' : rcostF (costAt c n) = true := by simpa [costAt] using hc
        have hg : goodL c (l.drop i.toNat) = goodL c (l.drop (i + 1).toNat) := by rw [hd]; simp [goodL, hc']
        have hf : fillL c (l.drop i.toNat) w = fillL c (l.drop (i + 1).toNat) (w.set n.toNat (costAt c n)) := by rw [hd]; rfl
        have hbd : badL c (l.drop i.toNat) w i = badL c (l.drop (i + 1).toNat) (w.set n.toNat (costAt c n)) (i + 1) := by rw [hd]; simp only [badL, hc', cond_true]
        have hG' : (goodL c (l.drop i.toNat) = true → G (.exit 0, ((b, l, m, m, ()), c, fillL c (l.drop i.toNat) w, ()))) ∧ (goodL c (l.drop i.toNat) = false → G (.ret, ((false, l, m, (badL c (l.drop i.toNat) w i).1, ()), c, (badL c (l.drop i.toNat) w i).2, ()))) := hG
        rw [hg, hf, hbd] at hG'
        show (goodL c (l.drop (IntKind.i64.wrap (i + 1)).toNat) = true → G (.exit 0, ((b, l, m, m, ()), c, fillL c (l.drop (IntKind.i64.wrap (i + 1)).toNat) (w.set n.toNat (costAt c n)), ()))) ∧
          (goodL c (l.drop (IntKind.i64.wrap (i + 1)).toNat) = false → G (.ret, ((false, l, m, (badL c (l.drop (IntKind.i64.wrap (i + 1)).toNat) (w.set n.toNat (costAt c n)) (IntKind.i64.wrap (i + 1))).1, ()), c, (badL c (l.drop (IntKind.i64.wrap (i + 1)).toNat) (w.set n.toNat (costAt c n)) (IntKind.i64.wrap (i + 1))).2, ())))
        rw [e]
        exact hG'
    · have h' : ¬ i < m := by simpa using h
      have hi : i = m := by omega
      subst hi
      have hd : l.drop i.toNat = [] := List.drop_eq_nil_of_le (by omega)
      refine ⟨_, rfl, fun G hG => ?_⟩
      have hG' : (goodL c (l.drop i.toNat) = true → G (.exit 0, ((b, l, i, i, ()), c, fillL c (l.drop i.toNat) w, ()))) ∧ (goodL c (l.drop i.toNat) = false → G (.ret, ((false, l, i, (badL c (l.drop i.toNat) w i).1, ()), c, (badL c (l.drop i.toNat) w i).2, ()))) := hG
      rw [hd] at hG'
      exact hG'.1 rfl
theorem sound_tree : (fun x : DCosts => evFn (mkC tys soundG [(0, soundD.spec)]) (fnOf Tryd.prog 50) (resL soundC.args x) soundC.res) =
  (fun x =>
    Tree.br (bif decide (x.1 < (0 : Int)) then true else decide (x.1 ≥ (65536 : Int))) (Tree.leaf false)
      (Tree.need
        ((0 : Int) ≤ (0 : Int) ∧
          (0 : Int) ≤ (↑(List.length (elemsF x.1 (16 : Nat))) : Int) ∧
            (↑(List.length (elemsF x.1 (16 : Nat))) : Int) = (↑(List.length (elemsF x.1 (16 : Nat))) : Int) ∧
              (↑(List.length (elemsF x.1 (16 : Nat))) : Int) ≤ (16 : Int) ∧ ∀ (n : Int), n ∈ elemsF x.1 (16 : Nat) → (0 : Int) ≤ n ∧ n < (16 : Int))
        (Tree.br (goodL x (List.drop (Int.toNat (0 : Int)) (elemsF x.1 (16 : Nat))))
          (Tree.leaf (geq (GTy.arr (16 : Nat) (GTy.int IntKind.u32)) x.2 (fillL x (List.drop (Int.toNat (0 : Int)) (elemsF x.1 (16 : Nat))) (List.replicate (16 : Nat) (0 : Int))))) (Tree.leaf false)))) := by kernel_rfl
theorem sound_ok : CtrOK Tryd.prog 50 soundC :=
  fun_ok (G := soundG) (Λ := [(0, soundD.spec)]) tysOK soundG_ok mixed (by kernel_rfl) (by kernel_rfl) (by kernel_rfl) (by kernel_rfl) (lp_cons sound_loop lp_nil) fun (x : DCosts) hw _ => by
    rw [congrFun sound_tree x]
    have hl : x.2.length = 16 := hw.2.1
    refine holds_val (d := false) (sound_fn hl) ?_
    have hn : ∀ n ∈ elemsF x.1 16, 0 ≤ n ∧ n < 16 := fun n h => by
      have := (mem_elems (Nat.le_refl _)).1 h
      omega
    have hlen := elems_len x.1 16
    exact ⟨fun _ => trivial, fun _ => ⟨⟨by omega, by omega, rfl, by omega, hn⟩, fun _ => trivial, fun _ => trivial⟩⟩
def rsoundG : List (Nat × Ctr) := [(111, rhasC)]
theorem rsoundG_ok : CtrsOK Tryd.prog (fun f => lk f rsoundG) := (ctrs_cons rhas_ok ctrs_nil)
def rsoundC : Ctr := { args := [gCosts], res := [.bool], pre := none, fn := fun (x : DCosts) => soundF x }
def rsoundD : LoopD where
  prom := []
  ts := [(1, .ptr 1 gCosts), (2, .val .bool), (6, .val (.arr 16 (.int .u32))), (7, .val (.int .i64))]
  bs := [(1, .var gCosts)]
  pre := fun (x : (Bool × List Int × Int × Unit) × DCosts × Unit) => 0 ≤ x.1.2.2.1 ∧ x.1.2.2.1 ≤ 16 ∧ x.1.2.1 = x.2.1.2
  out := fun (x : (Bool × List Int × Int × Unit) × DCosts × Unit) => .br (allOk x.2.1 (16 - x.1.2.2.1).toNat) (.leaf (.exit 0, ((x.1.1, x.1.2.1, 16, ()), x.2.1, ()))) (.leaf (.ret, ((false, x.1.2.1, firstBad x.2.1 (16 - x.1.2.2.1).toNat, ()), x.2.1, ())))
theorem rsound_round : (fun x : (Bool × List Int × Int × Unit) × DCosts × Unit => roundOf (mkC tys rsoundG [(0, rsoundD.spec)]) rsoundD (loopB 0 (bodyOf (fnOf Tryd.prog 51))) x) =
  (fun x =>
    Tree.br (decide (x.1.2.2.1 < (16 : Int)))
      (Tree.need ((0 : Int) ≤ x.1.2.2.1 ∧ x.1.2.2.1 < (16 : Int))
        (Tree.br
          (bif
              !geq GTy.bool (hasF x.2.1.1 x.1.2.2.1)
                  (bif decide (List.getD x.1.2.1 (Int.toNat x.1.2.2.1) (0 : Int) ≥ (1 : Int)) then decide (List.getD x.1.2.1 (Int.toNat x.1.2.2.1) (0 : Int) ≤ (65536 : Int)) else false) then
            true
          else bif !hasF x.2.1.1 x.1.2.2.1 then List.getD x.1.2.1 (Int.toNat x.1.2.2.1) (0 : Int) != (0 : Int) else false)
          (Tree.leaf (Ex.ret, some ((false, x.1.2.1, x.1.2.2.1, ()), x.2.1, ()))) (Tree.leaf (Ex.normal, some ((x.1.1, x.1.2.1, IntKind.wrap IntKind.i64 (x.1.2.2.1 + (1 : Int)), ()), x.2.1, ())))))
      (Tree.leaf (Ex.exit (0 : Nat), some ((x.1.1, x.1.2.1, x.1.2.2.1, ()), x.2.1, ())))) := by kernel_rfl
theorem rsound_tree : (fun x : DCosts => evFn (mkC tys rsoundG [(0, rsoundD.spec)]) (fnOf Tryd.prog 51) (resL rsoundC.args x) rsoundC.res) =
  (fun x =>
    Tree.need ((0 : Int) ≤ (0 : Int) ∧ (0 : Int) ≤ (16 : Int) ∧ x.2 = x.2)
      (Tree.br (allOk x (Int.toNat ((16 : Int) - (0 : Int)))) (Tree.leaf (bif decide (x.1 ≥ (0 : Int)) then decide (x.1 ≤ (65535 : Int)) else false)) (Tree.leaf false))) := by kernel_rfl
theorem rsound_loop : LoopOK (mkC tys rsoundG [(0, rsoundD.spec)]) rsoundD.spec (loopB 0 (bodyOf (fnOf Tryd.prog 51))) :=
  loopD_ok (fun x => congrFun rsound_round x) (fun (x : (Bool × List Int × Int × Unit) × DCosts × Unit) => (16 - x.1.2.2.1).toNat) fun (x : (Bool × List Int × Int × Unit) × DCosts × Unit) hp => by
    obtain ⟨⟨b, l, i, ⟨⟩⟩, c, ⟨⟩⟩ := x
    obtain ⟨h1, h2, h3⟩ := hp
    simp only at h1 h2 h3
    subst h3
    simp only [Tree.holds]
    refine ⟨fun h => ?_, fun h => ?_⟩
    · have h' : i < 16 := by simpa using h
      have e : IntKind.i64.wrap (i + 1) = i + 1 := i64_id (by omega) (by omega)
      have hk : (16 - i).toNat = (16 - (i + 1)).toNat + 1 := by omega
      have hi : (16 : Int) - ((16 - (i + 1)).toNat + 1 : Nat) = i := by omega
      have hr := round_ok (c := c) (n := i)
      simp only [costAt] at hr
      refine ⟨⟨h1, h'⟩, fun hc => ⟨_, rfl, fun G hG => ?_⟩, fun hc => ⟨_, rfl, ⟨?_, ?_, rfl⟩, ?_, fun G hG => ?_⟩⟩
      · have ho : okAt c i = false := by
          have := hr.symm.trans hc
          simpa using this
        have hG' : allOk c (16 - i).toNat = false → G (.ret, ((false, c.2, firstBad c (16 - i).toNat, ()), c, ())) := hG.2
        rw [hk] at hG'
        simp only [allOk, firstBad, hi, ho, Bool.false_and, cond_false] at hG'
        exact hG' trivial
      · show 0 ≤ IntKind.i64.wrap (i + 1); omega
      · show IntKind.i64.wrap (i + 1) ≤ 16; omega
      · show (16 - IntKind.i64.wrap (i + 1)).toNat < (16 - i).toNat; omega
      · have ho : okAt c i = true := by
          have := hr.symm.trans hc
          simpa using this
        have hG' : (allOk c (16 - i).toNat = true → G (.exit 0, ((b, c.2, 16, ()), c, ()))) ∧ (allOk c (16 - i).toNat = false → G (.ret, ((false, c.2, firstBad c (16 - i).toNat, ()), c, ()))) := hG
        rw [hk] at hG'
        simp only [allOk, firstBad, hi, ho, Bool.true_and, cond_true] at hG'
        show (allOk c (16 - IntKind.i64.wrap (i + 1)).toNat = true → G (.exit 0, ((b, c.2, 16, ()), c, ()))) ∧ (allOk c (16 - IntKind.i64.wrap (i + 1)).toNat = false → G (.ret, ((false, c.2, firstBad c (16 - IntKind.i64.wrap (i + 1)).toNat, ()), c, ())))
        rw [e]
        exact hG'
    · have h' : ¬ i < 16 := by simpa using h
      have hi : i = 16 := by omega
      subst hi
      refine ⟨_, rfl, fun G hG => ?_⟩
      exact hG.1 rfl
theorem rsound_ok : CtrOK Tryd.prog 51 rsoundC :=
  fun_ok (G := rsoundG) (Λ := [(0, rsoundD.spec)]) tysOK rsoundG_ok mixed (by kernel_rfl) (by kernel_rfl) (by kernel_rfl) (by kernel_rfl) (lp_cons rsound_loop lp_nil) fun (x : DCosts) hw _ => by
    rw [congrFun rsound_tree x]
    refine holds_val (d := false) (rsound_fn x) ?_
    exact ⟨⟨by omega, by omega, rfl⟩, fun _ => trivial, fun _ => trivial⟩
end Go.Ev.D
/- Configurations that may be, plainly. -/
set_option linter.unusedVariables false
set_option linter.unusedSimpArgs false
namespace Go.Ev
end Go.Ev
/- Configurations that may be. -/
set_option linter.unusedVariables false
set_option linter.unusedSimpArgs false
namespace Go.Ev.D
open Go.Proofs
end Go.Ev.D
/- A channel with room, used by one goroutine alone: the pieces of code beside it are told by the evaluator. -/
set_option linter.unusedVariables false
set_option linter.unusedSimpArgs false
namespace Go.Ev
open Go.Conc

section
variable {P : Program} {C : Ctx} {b : Frame}

/-- From the code on, in this frame. -/
def CodeTo (P : Program) (b : Frame) (c : Code) (Q : Exit → Act → World → Prop) (a : Act) (w : World) : Prop :=
  ∀ (k : List Item) (cs : List Frame), ∃ e a' w', Q e a' w' ∧ Arrives P (lone (b.at a (.code c :: k)) cs w) b k cs e a' w'
/-- From so many operations of a region on. -/
def RegTo (P : Program) (b : Frame) (ops : Array Oper) (l : List Nat) (Q : Exit → Act → World → Prop) (a : Act) (w : World) : Prop :=
  ∀ (k : List Item) (cs : List Frame), ∃ e a' w', Q e a' w' ∧ Arrives P (lone (b.at a (.inRegion ops l :: k)) cs w) b k cs e a' w'

variable {Q : Exit → Act → World → Prop} {a : Act} {w : World} {ops : Array Oper} {l : List Nat}

theorem CodeTo.of_wp {c : Code} (h : c.wp P Q a w) : CodeTo P b c Q a w := fun k cs => h b k cs
theorem CodeTo.mono {c : Code} {Q' : Exit → Act → World → Prop} (h : CodeTo P b c Q a w) (hq : ∀ e a w, Q e a w → Q' e a w) : CodeTo P b c Q' a w := fun k cs =>
  let ⟨e, a', w', h1, h2⟩ := h k cs; ⟨e, a', w', hq _ _ _ h1, h2⟩
theorem CodeTo.cond {c : Operand} {x y : Code} {t : Bool} (hc : a.eval c = .bool t) (h : CodeTo P b (if t then x else y) Q a w) : CodeTo P b (.cond c x y) Q a w := fun k cs =>
  let ⟨e, a', w', q, r⟩ := h k cs; ⟨e, a', w', q, .of_steps (.one (step_cond hc)) r⟩
theorem CodeTo.region {id : Nat} (h : RegTo P b ops (List.range ops.size) Q a w) : CodeTo P b (.region id ops false) Q a w := fun k cs =>
  let ⟨e, a', w', q, r⟩ := h k cs; ⟨e, a', w', q, .of_steps (.one step_region) r⟩
theorem CodeTo.skip (h : Q .normal a w) : CodeTo P b .skip Q a w := CodeTo.of_wp (wp_skip h)

/-- Codes one behind the other. -/
def LTo (P : Program) (b : Frame) : List Code → (Exit → Act → World → Prop) → Act → World → Prop
  | [], Q, a, w => Q .normal a w
  | c :: l, Q, a, w => CodeTo P b c (Exit.then (LTo P b l Q) Q) a w
def seqs : Code → List Code
  | .seq x y => seqs x ++ seqs y
  | c => [c]

theorem CodeTo.seq {x y : Code} (h : CodeTo P b x (Exit.then (CodeTo P b y Q) Q) a w) : CodeTo P b (.seq x y) Q a w := by
  intro k cs
  obtain ⟨e, a₁, w₁, hq, harr⟩ := h (.code y :: k) cs
  cases e with
  | normal =>
    obtain ⟨e, a₂, w₂, hq', harr'⟩ := hq k cs
    exact ⟨e, a₂, w₂, hq', .of_steps (.one step_seq) (.of_steps harr harr')⟩
  | exit id => exact ⟨_, a₁, w₁, hq, .of_steps (.one step_seq) (.pass (x := .code y) rfl (fun _ _ => .inl (by simp)) harr)⟩
  | goto id => exact ⟨_, a₁, w₁, hq, .of_steps (.one step_seq) (.pass (x := .code y) rfl (fun _ _ => .inl (by simp)) harr)⟩
  | ret => exact ⟨_, a₁, w₁, hq, .of_steps (.one step_seq) (.pass (x := .code y) rfl (fun _ _ => .inl (by simp)) harr)⟩
  | panic c => exact ⟨_, a₁, w₁, hq, .of_steps (.one step_seq) (.pass (x := .code y) rfl (fun _ _ => .inl (by simp)) harr)⟩
  | outgrown => exact ⟨_, a₁, w₁, hq, .of_steps (.one step_seq) (.pass (x := .code y) rfl (fun _ _ => .inl (by simp)) harr)⟩

theorem then_id {c : Code} (h : CodeTo P b c (Exit.then (LTo P b [] Q) Q) a w) : CodeTo P b c Q a w := h.mono fun e a w hq => by cases e <;> exact hq
theorem lto_append : ∀ {l r : List Code} {Q : Exit → Act → World → Prop} {a : Act} {w : World}, LTo P b (l ++ r) Q a w → LTo P b l (Exit.then (LTo P b r Q) Q) a w
  | [], _, _, _, _, h => h
  | c :: l, r, Q, a, w, h => CodeTo.mono (c := c) h fun e a' w' hq => by
      cases e with
      | normal => exact lto_append (l := l) hq
      | _ => exact hq
theorem LTo.mono : ∀ {l : List Code} {Q Q' : Exit → Act → World → Prop} {a : Act} {w : World}, LTo P b l Q a w → (∀ e a w, Q e a w → Q' e a w) → LTo P b l Q' a w
  | [], _, _, _, _, h, hq => hq _ _ _ h
  | c :: l, Q, Q', a, w, h, hq => CodeTo.mono (c := c) h fun e a' w' h' => by
      cases e with
      | normal => exact LTo.mono (l := l) h' hq
      | _ => exact hq _ _ _ h'
theorem CodeTo.seqs : ∀ {c : Code} {Q : Exit → Act → World → Prop} {a : Act} {w : World}, LTo P b (Ev.seqs c) Q a w → CodeTo P b c Q a w
  | .seq x y, Q, a, w, h => CodeTo.seq (CodeTo.mono (CodeTo.seqs (c := x) (lto_append h)) fun e a' w' hq => by
      cases e with
      | normal => exact CodeTo.seqs (c := y) hq
      | _ => exact hq)
  | .skip, _, _, _, h | .region .., _, _, _, h | .cond .., _, _, _, h | .block .., _, _, _, h | .loop _, _, _, _, h | .rangeFunc .., _, _, _, h | .exit _, _, _, _, h | .scope _, _, _, _, h | .label _, _, _, _, h | .goto _, _, _, _, h | .ret, _, _, _, h | .refuse _, _, _, _, h => then_id h

/-- Codes that the evaluator tells. -/
def evL (C : Ctx) : List Code → St → Tree (Ex × St)
  | [], s => .leaf (.normal, s)
  | c :: l, s => (ev C c s).bind fun p => match p.1 with
    | .normal => evL C l p.2
    | e => .leaf (e, p.2)

theorem evL_toD (TOK : TysOK P C.τ) (GC : CtrsOK P C.Γ) (hmix : P.follows .mixedOrders = true) (DK : DsOK P C) {R : Ref} {F : Ex × St → Prop} {rest : List Code} : ∀ (l : List Code) (s : St) (a : Act) (w : World), (∀ c ∈ l, LamOK C c) → (∀ c ∈ l, ∀ t ∈ writes c, t < a.tmps.size) → IsSt R s a w → (evL C l s).holds F →
    (∀ z s' a' w', F (z, s') → IsSt R s' a' w' → a'.tmps.size = a.tmps.size → a'.defers = a.defers → (∀ t, (∀ c ∈ l, t ∉ writes c) → a'.tmps.getD t undef = a.tmps.getD t undef) → match z with
      | .normal => LTo P b rest Q a' w'
      | z => Q z.to a' w') → LTo P b (l ++ rest) Q a w
  | [], s, a, w, _, _, hs, hF, hQ => hQ .normal s a w hF hs rfl rfl (fun _ _ => rfl)
  | c :: l, s, a, w, hl, hsz, hs, hF, hQ => by
    have hF' := holds_bind.1 hF
    have := (ev_ok TOK GC DK hmix c (hl c (by simp))).1 R s a w _ hs (hsz c (by simp)) hF'
    refine (CodeTo.of_wp this).mono ?_
    rintro e a1 w1 ⟨z, s1, rfl, h1, h2, h3⟩
    cases z with
    | normal =>
      exact evL_toD TOK GC hmix DK l s1 a1 w1 (fun c' hc' => hl c' (by simp [hc'])) (fun c' hc' t ht => by rw [h3.size]; exact hsz c' (by simp [hc']) t ht) h2 h1
        (fun z s' a' w' f1 f2 f3 f4 f5 => hQ z s' a' w' f1 f2 (f3.trans h3.size) (f4.trans h3.defers) (fun t ht => (f5 t (fun c' hc' => ht c' (by simp [hc']))).trans (h3.tmps t (ht c (by simp)))))
    | exit id => exact hQ (.exit id) s1 a1 w1 h1 h2 h3.size h3.defers (fun t ht => h3.tmps t (ht c (by simp)))
    | ret => exact hQ .ret s1 a1 w1 h1 h2 h3.size h3.defers (fun t ht => h3.tmps t (ht c (by simp)))
    | die v => exact hQ (.die v) s1 a1 w1 h1 h2 h3.size h3.defers (fun t ht => h3.tmps t (ht c (by simp)))

theorem evL_to (TOK : TysOK P C.τ) (GC : CtrsOK P C.Γ) (hmix : P.follows .mixedOrders = true) {R : Ref} {F : Ex × St → Prop} {rest : List Code} (l : List Code) (s : St) (a : Act) (w : World) (hl : ∀ c ∈ l, LamOK C c) (hsz : ∀ c ∈ l, ∀ t ∈ writes c, t < a.tmps.size) (hs : IsSt R s a w) (hF : (evL C l s).holds F)
    (hQ : ∀ z s' a' w', F (z, s') → IsSt R s' a' w' → a'.tmps.size = a.tmps.size → a'.defers = a.defers → (∀ t, (∀ c ∈ l, t ∉ writes c) → a'.tmps.getD t undef = a.tmps.getD t undef) → match z with
      | .normal => LTo P b rest Q a' w'
      | z => Q z.to a' w') (DK : DsOK P C := by exact dsOK_nil rfl) : LTo P b (l ++ rest) Q a w :=
  evL_toD TOK GC hmix DK l s a w hl hsz hs hF hQ

/-! Regions, operation by operation -/

theorem RegTo.nil (h : Q .normal a w) : RegTo P b ops [] Q a w := fun k cs => ⟨.normal, a, w, h, .one step_region_end⟩
theorem RegTo.value {i : Nat} {o : Oper} {v : Value} {w' : World} (ho : ops[i]? = some o) (hg : o.guard = none) (hr : (execOp a.eval o).run P w = .ok (.value v) w') (h : RegTo P b ops l Q (a.put o.dst v) w') : RegTo P b ops (i :: l) Q a w := by
  intro k cs
  obtain ⟨e, a', w'', hq, harr⟩ := h k cs
  have hw : Region.wanted o (yielded ops a.tmps) = true := by simp [Region.wanted, hg]
  have hgo := stepG_op (P := P) (b := b) (k := k) (cs := cs) (w := w) (rest := l) ho hw
  have hfin : ∀ v, (b.at a (.inRegion ops (i :: l) :: k)).finish v = b.at (a.put o.dst v) (.inRegion ops l :: k) := by
    intro v; rw [Frame.finish_at, ho]; rfl
  refine ⟨e, a', w'', hq, .of_steps (.one (step_lone_go ?_)) harr⟩
  rw [hgo, ← hfin]
  simp [stepG.apply, hr]

/-! The frame of a call -/
theorem calls_of_to {f : FuncId} {fn : Func} {c : Code} {args : Array Value} {R : Ending → World → Prop} (hf : P.funcs[f]? = some fn) (hb : fn.body = some c)
    (h : CodeTo P { (default : Frame) with fn := f, kind := .normal } c (fun e a' w' => (e = .normal ∨ e = .ret) ∧ a'.defers = [] ∧ ∃ v, (results fn a'.tmps).run P w' = .ok v w' ∧ R (.returned v) w') { tmps := args ++ Array.replicate (fn.ntmps - args.size) undef, defers := [] } w) : Calls P f args w R := by
  intro cs
  have henter : Frame.enter P f args .normal = ({ (default : Frame) with fn := f, kind := .normal } : Frame).at { tmps := args ++ Array.replicate (fn.ntmps - args.size) undef, defers := [] } [.code c] := by
    simp [Frame.enter, Frame.at, hf, hb]
  obtain ⟨e, a', w', ⟨he, hd, v, hr, hR⟩, harr⟩ := h [] cs
  rw [← henter] at harr
  rcases he with rfl | rfl
  · exact ⟨.returned v, w', _, hR, Steps.trans harr (.one step_end), rfl, rfl, hd, rfl, fn, hf, hr⟩
  · obtain ⟨todo, hs⟩ := harr
    exact ⟨.returned v, w', _, hR, hs, rfl, rfl, hd, rfl, fn, hf, hr⟩

/-! Another world to start from, but for one block -/
theorem IsSt.frame {R : Ref} {s : St} {a : Act} {w : World} (h : IsSt R s a w) {k : Nat} (hk : k < R.w0.heap.size) (ho : ¬ R.own k) : w.heap[k]? = R.w0.heap[k]? := by
  obtain ⟨M, rfl, _, I, _⟩ := h
  exact I.frame k hk ho
theorem IsSt.grow {R : Ref} {s : St} {a : Act} {w : World} (h : IsSt R s a w) : R.w0.heap.size ≤ w.heap.size := by
  obtain ⟨M, rfl, _, I, _⟩ := h
  exact I.size

theorem rebase {R : Ref} {s : St} {a : Act} {w w' : World} (h : IsSt R s a w) (c : Nat) (hos : w'.os = w.os) (htape : w'.tape = w.tape) (hout : w'.output = w.output) (hsz : w.heap.size ≤ w'.heap.size)
    (hcell : ∀ k, k < w.heap.size → k ≠ c → w'.heap[k]? = w.heap[k]?) (hnew : R.w0.heap.size ≤ c) (hchan : ∀ cs t fr, w.heap[c]? ≠ some (.cells cs t fr)) (hit : ∀ y p, w.heap[c]? ≠ some (.stringIter y p)) (hchan' : ∀ cs t fr, w'.heap[c]? ≠ some (.cells cs t fr)) :
    ∃ R' : Ref, R'.w0 = w' ∧ ¬ R'.own c ∧ IsSt R' s a w' ∧ ∀ s2 a2 w2, IsSt R' s2 a2 w2 → IsSt R s2 a2 w2 := by
  obtain ⟨M, rfl, hb, I, hr⟩ := h
  have hblk' : ∀ b d B, lk b M.bs = some (d, B) → ∀ k, blkOf (M.β b) = some k → k ≠ c := by
    intro b d B hB k hk hkc
    subst hkc
    have hRB := I.boxes b d B hB
    cases B with
    | var g x =>
      obtain ⟨blk, cs, e, h1, h2, _⟩ := hRB
      rw [h1] at hk
      simp [blkOf] at hk
      subst hk
      exact hchan _ _ _ h2
    | row e g xs fz =>
      obtain ⟨cs, ho, _⟩ := hRB
      rcases ho.2 with ⟨hv, _⟩ | ⟨g', cap, cur, hv, _, h2, _⟩
      · rw [hv] at hk; simp [blkOf] at hk
      · rw [hv] at hk
        simp [blkOf] at hk
        subst hk
        exact hchan _ _ _ h2
    | iter y pos =>
      obtain ⟨blk, h1, h2, _⟩ := hRB
      rw [h1] at hk
      simp [blkOf] at hk
      subst hk
      exact hit _ _ h2
  have nocell : ∀ (v : World) (o : Nat), (∀ cs t fr, v.heap[c]? ≠ some (.cells cs t fr)) → v.cell? ⟨c, o, none⟩ = none := by
    intro v o hv
    unfold World.cell?
    split
    · rename_i cc t fr hcc
      exact absurd hcc (hv _ _ _)
    · rfl
  have hk : Keeps M.S M.S M.w w' := by
    intro k o hS
    refine ⟨hS, ?_⟩
    by_cases hkc : k = c
    · subst hkc
      rw [nocell _ o hchan, nocell _ o hchan']
    · exact cell_of_heap (hcell k (I.here k o hS).2 hkc)
  have ref : ∀ {R1 R2 : Ref} {v : Value} {B : Box} {W : World} {S : Stab}, (∀ blk, R1.new blk → blkOf v = some blk → R2.new blk) → RelB R1 W S v B → RelB R2 W S v B := by
    intro R1 R2 v B W S hn hB
    cases B with
    | var g x =>
      obtain ⟨blk, cs, e, h1, h2, h3, h4, h5⟩ := hB
      exact ⟨blk, cs, e, h1, h2, h3, h4, hn blk h5 (by rw [h1]; rfl)⟩
    | row e g xs fz =>
      obtain ⟨cs, h1, h2, h3, h4, h5, h6⟩ := hB
      exact ⟨cs, h1, h2, h3, h4, h5, fun blk hb => ⟨hn blk (h6 blk hb).1 hb, (h6 blk hb).2⟩⟩
    | iter y pos =>
      obtain ⟨blk, h1, h2, h3, h4, h5⟩ := hB
      exact ⟨blk, h1, h2, h3, h4, hn blk h5 (by rw [h1]; rfl)⟩
  have st : Step M { M with w := w' } (fun _ => False) := ⟨hk, fun b d B h _ => ⟨d, B, h, rfl, Box.le_refl B⟩⟩
  refine ⟨⟨w', fun k => R.new k ∧ k ≠ c, M.S, (R.tab.keeps I.old).keeps hk⟩, rfl, fun h => h.2 rfl, ?_, ?_⟩
  · refine ⟨{ M with w := w' }, rfl, hb, ⟨rfl, rfl, rfl, Nat.le_refl _, fun _ _ _ => rfl, Keeps.refl _ _, fun b o hs => ⟨.inl hs, Nat.lt_of_lt_of_le (I.here b o hs).2 hsz⟩, fun b d B hB => ?_, I.sep⟩, fun t => (hr t).step st (fun b hb => hb.elim)⟩
    have hRB := I.boxes b d B hB
    have hm := hRB.move hk (fun blk hblk => hcell blk (hRB.lt blk hblk) (hblk' b d B hB blk hblk)) (fun blk o hblk hs => hs)
    exact ref (fun blk hn hv => .inr ⟨hn, hblk' b d B hB blk hv⟩) hm
  · rintro s2 a2 w2 ⟨M2, rfl, hb2, I2, hr2⟩
    refine ⟨M2, rfl, hb2, ⟨I2.os.trans (hos.trans I.os), I2.tape.trans (htape.trans I.tape), I2.output.trans (hout.trans I.output), Nat.le_trans I.size (Nat.le_trans hsz I2.size), ?_, I.old.trans (hk.trans I2.old), ?_, ?_, I2.sep⟩, hr2⟩
    · intro k h1 h2
      have hkc : k ≠ c := by omega
      have hno : ¬ (R.new k ∧ k ≠ c) := by
        rintro ⟨h3 | h3, _⟩
        · omega
        · exact h2 h3
      have h4 : k < M.w.heap.size := Nat.lt_of_lt_of_le h1 I.size
      exact (I2.frame k (Nat.lt_of_lt_of_le h4 hsz) hno).trans ((hcell k h4 hkc).trans (I.frame k h1 h2))
    · intro b o hs
      obtain ⟨h1, h2⟩ := I2.here b o hs
      refine ⟨?_, h2⟩
      rcases h1 with h1 | h1 | h1
      · exact (I.here b o h1).1
      · exact .inr (.inl (Nat.le_trans (Nat.le_trans I.size hsz) h1))
      · exact .inr h1.1
    · intro b d B hB
      refine ref (fun blk hn _ => ?_) (I2.boxes b d B hB)
      rcases hn with h1 | h1
      · exact .inl (Nat.le_trans (Nat.le_trans I.size hsz) h1)
      · exact h1.1

/-! A call's beginning, and its end -/
theorem start_st {w : World} {S : Stab} {us : List Value} {gs : List GTy} {x : dens gs} (hS : ∀ b o, S b o → b < w.heap.size) (hT : Tab S w) (henc : EncD w S gs x us) (n : Nat) :
    IsSt ⟨w, fun _ => False, S, hT⟩ { tmps := number 0 (resL gs x), boxes := [] } { tmps := us.toArray ++ Array.replicate (n - us.toArray.size) undef, defers := [] } w := by
  let R : Ref := ⟨w, fun _ => False, S, hT⟩
  let M : Mem := ⟨w, S, fun _ => undef, []⟩
  have I : InvM R M := ⟨rfl, rfl, rfl, Nat.le_refl _, fun _ _ _ => rfl, Keeps.refl _ _, fun b o hs => ⟨.inl hs, hS b o hs⟩, fun b d B hb => by simp [M, lk] at hb, fun b c d B d' B' _ hb => by simp [M, lk] at hb⟩
  have hrl := resL_rel (M := M) (gs := gs) (x := x) (us := us) henc
  refine ⟨M, rfl, rfl, I, fun t => ?_⟩
  show RelV M ((lk t (number 0 (resL gs x))).getD .undef) _
  rw [lk_number]
  simp only [Nat.zero_le, if_true, Nat.sub_zero]
  cases hv : (resL gs x)[t]? with
  | none => simp [RelV]
  | some v =>
    obtain ⟨u, h1, h2⟩ := hrl.get t hv
    have hlt := (List.getElem?_eq_some_iff.1 h1).1
    have : (us.toArray ++ Array.replicate (n - us.toArray.size) undef).getD t undef = u := by
      simp only [Array.getD_eq_getD_getElem?]
      rw [Array.getElem?_append_left (by simpa using hlt)]
      simp [h1]
    rw [this]
    simpa using h2

theorem finish_st (TOK : TysOK P C.τ) {w w' : World} {S : Stab} {hT : Tab S w} {s' : St} {a' : Act} {fn : Func} {res : List GTy} {y : dens res} (hs : IsSt ⟨w, fun _ => False, S, hT⟩ s' a' w') (hF : (evRes C fn res (.normal, s')).holds (fun z => z = y)) :
    ∃ v, (results fn a'.tmps).run P w' = .ok v w' ∧ ∃ v', Ending.returned v = Ending.returned v' ∧ Grows w w' ∧ ∃ N : Stab, (∀ b o, N b o → w.heap.size ≤ b ∧ b < w'.heap.size) ∧ RelRes w' (fun b o => S b o ∨ N b o) res y v' := by
  obtain ⟨M', rfl, hb', I', hr'⟩ := hs
  simp only [evRes] at hF
  split at hF
  · exact hF.elim
  rename_i aas has
  split at hF
  · exact hF.elim
  rename_i z ws htk
  simp only [Tree.holds] at hF
  subst hF
  obtain ⟨us', q1, q2⟩ := resArgs_sound TOK I' hb' hr' has
  obtain ⟨_, S', fz, henc'⟩ := takes_sound I' q2 htk
  refine ⟨_, results_run q1, _, rfl, ⟨I'.os, I'.tape, I'.output, I'.size, fun k hk => I'.frame k hk id⟩, fun b o => S' b o ∧ w.heap.size ≤ b, fun b o hN => ⟨hN.2, (fz.inv.here b o hN.1).2⟩, us', ?_, by rcases us' with _ | ⟨u, _ | ⟨v, us⟩⟩ <;> rfl⟩
  refine henc'.keeps (fun b o hs => ⟨?_, rfl⟩)
  rcases (fz.inv.here b o hs).1 with h3 | h3 | h3
  · exact .inl h3
  · exact .inr ⟨hs, h3⟩
  · exact h3.elim

/-! Slots that nothing is known of -/
theorem IsSt.put_undef {R : Ref} {s : St} {d : Nat} {v : Value} (h : IsSt R s a w) (hd : s.look d = .undef) (hsz : d < a.tmps.size) : IsSt R s (a.put (some d) v) w := by
  obtain ⟨M, hM, hb, I, hr⟩ := h
  refine ⟨M, hM, hb, I, fun t => ?_⟩
  rw [put_getD a (some d) v t (fun k hk => by cases hk; exact hsz)]
  split
  · rename_i ht
    cases ht
    rw [hd]; simp [RelV]
  · exact hr t
theorem IsSt.put_known {R : Ref} {s : St} {d : Nat} {v : Value} {av : AV} (h : IsSt R s a w) (hv : ∀ M, RelV M av v) (hsz : d < a.tmps.size) : IsSt R (s.put d av) (a.put (some d) v) w := by
  obtain ⟨M, hM, hb, I, hr⟩ := h
  refine ⟨M, hM, hb, I, fun t => ?_⟩
  rw [put_getD a (some d) v t (fun k hk => by cases hk; exact hsz), look_put]
  by_cases ht : t = d
  · subst ht
    simp [hv]
  · rw [if_neg ht, if_neg (fun e => ht (by cases e; rfl))]
    exact hr t
theorem IsSt.grows {R : Ref} {s : St} {w' : World} (h : IsSt R s a w) (g : Grows w w') : IsSt R s a w' := by
  obtain ⟨M, rfl, hb, I, hr⟩ := h
  obtain ⟨I2, st⟩ := I.grow g
  exact ⟨{ M with w := w' }, rfl, hb, I2, fun t => (hr t).steps st⟩
theorem put_same {d t : Nat} {v : Value} (hsz : d < a.tmps.size) (h : t ≠ d) : (a.put (some d) v).tmps.getD t undef = a.tmps.getD t undef := by
  rw [put_getD a (some d) v t (fun k hk => by cases hk; exact hsz), if_neg (fun e => h (by cases e; rfl))]
theorem put_at {d : Nat} {v : Value} (hsz : d < a.tmps.size) : (a.put (some d) v).tmps.getD d undef = v := by
  rw [put_getD a (some d) v d (fun k hk => by cases hk; exact hsz), if_pos rfl]

theorem RegTo.yields {i : Nat} {o : Oper} {K : Value → World → Prop} (ho : ops[i]? = some o) (hg : o.guard = none) (h : Yields P a.eval o w K) (hk : ∀ v w', K v w' → RegTo P b ops l Q (a.put o.dst v) w') : RegTo P b ops (i :: l) Q a w := by
  intro k cs
  have hw : Region.wanted o (yielded ops a.tmps) = true := by simp [Region.wanted, hg]
  have hgo := stepG_op (P := P) (b := b) (k := k) (cs := cs) (w := w) (rest := l) ho hw
  have hfin : ∀ v, (b.at a (.inRegion ops (i :: l) :: k)).finish v = b.at (a.put o.dst v) (.inRegion ops l :: k) := by
    intro v; rw [Frame.finish_at, ho]; rfl
  unfold Yields at h
  split at h
  · rename_i v w' hr
    obtain ⟨e, a', w'', hq, harr⟩ := hk v w' h k cs
    refine ⟨e, a', w'', hq, .of_steps (.one (step_lone_go ?_)) harr⟩
    rw [hgo, ← hfin]; simp [stepG.apply, hr]
  · rename_i w' hr
    obtain ⟨e, a', w'', hq, harr⟩ := hk undef w' h k cs
    refine ⟨e, a', w'', hq, .of_steps (.one (step_lone_go ?_)) harr⟩
    rw [hgo, ← hfin]; simp [stepG.apply, hr]
  · rename_i f args w' hr
    obtain ⟨e, w'', fr, ⟨v, rfl, hv⟩, hsteps, _, hleave⟩ := h (b.at a (.inRegion ops (i :: l) :: k) :: cs)
    have henter : step P (lone (b.at a (.inRegion ops (i :: l) :: k)) cs w) = .next (lone (Frame.enter P f args .normal) (b.at a (.inRegion ops (i :: l) :: k) :: cs) w') :=
      step_lone_go (by rw [hgo]; simp [stepG.apply, hr, Frame.at])
    obtain ⟨e, a', w₃, hq, harr⟩ := hk v w'' hv k cs
    refine ⟨e, a', w₃, hq, .of_steps (.head henter (hsteps.trans (.one ?_))) harr⟩
    rw [← hfin]; exact step_leave_returned hleave
  · exact h.elim

theorem RegTo.op (TOK : TysOK P C.τ) (GOK : CtrsOK P C.Γ) {R : Ref} {s : St} {i : Nat} {o : Oper} {e : Eff} (ho : ops[i]? = some o) (hg : o.guard = none) (hs : IsSt R s a w) (he : opEff C.τ C.Γ (o.dst.getD 0) o (s.args o) = some e) (hn : e.ok) (hd : ∀ k, o.dst = some k → k < a.tmps.size)
    (hnext : ∀ a' w', IsSt R (s.after o e) a' w' → Apart (fun t => o.dst = some t) s a (s.after o e) a' → RegTo P b ops l Q a' w') : RegTo P b ops (i :: l) Q a w := by
  obtain ⟨M, hM, hb, I, hr⟩ := hs
  rw [args_eq s o hb] at he
  have := opEff_sound TOK GOK I (eval_func a) (opRel_of (R.tab.keeps I.old) hr o) he hn
  rw [hM] at this
  refine RegTo.yields ho hg this (fun v w' hv => ?_)
  obtain ⟨h1, h2⟩ := IsSt.after hM hb hr hd hv
  exact hnext _ _ h1 h2

/-- A piece, read back: what is answered, or the slots of a shape. -/
def pieceT (C : Ctx) (fn : Func) (res : List GTy) (ts : List (Nat × Sh)) (bs : List (Nat × BSh)) (l : List Code) (s : St) : Tree (Option (dens res) × Option (ShT ts × ShB bs)) :=
  (evL C l s).bind fun p => match p.1 with
    | .ret => (evRes C fn res (.normal, p.2)).bind fun y => .leaf (some y, none)
    | .normal => match restrict { prom := [], keep := ts.map (·.1), boxes := bs.map (·.1), sum := fun _ => .stuck } p.2 with
      | none => .stuck
      | some s' => .leaf (none, unS ts bs s')
    | .exit _ => .stuck
    | .die _ => .stuck

theorem piece_to (TOK : TysOK P C.τ) (GC : CtrsOK P C.Γ) (hmix : P.follows .mixedOrders = true) {R : Ref} {fn : Func} {res : List GTy} {ts : List (Nat × Sh)} {bs : List (Nat × BSh)} {rest l : List Code} {s : St} {G : Option (dens res) × Option (ShT ts × ShB bs) → Prop} (hl : ∀ c ∈ l, LamOK C c) (hsz : ∀ c ∈ l, ∀ t ∈ writes c, t < a.tmps.size) (hs : IsSt R s a w) (hG : (pieceT C fn res ts bs l s).holds G)
    (hret : ∀ y s' a' w', G (some y, none) → IsSt R s' a' w' → a'.defers = a.defers → (evRes C fn res (.normal, s')).holds (fun z => z = y) → Q .ret a' w')
    (hgo : ∀ x a' w', G (none, some x) → IsSt R (mkS ts bs x) a' w' → a'.tmps.size = a.tmps.size → a'.defers = a.defers → (∀ t, (∀ c ∈ l, t ∉ writes c) → a'.tmps.getD t undef = a.tmps.getD t undef) → LTo P b rest Q a' w')
    (hbad : ¬ G (none, none)) (DK : DsOK P C := by exact dsOK_nil rfl) : LTo P b (l ++ rest) Q a w := by
  refine evL_to (DK := DK) TOK GC hmix l s a w hl hsz hs (holds_bind.1 hG) ?_
  intro z s' a' w' hF h1 h2 h3 h4
  cases z with
  | normal =>
    simp only at hF
    split at hF
    · exact hF.elim
    · rename_i s'' hr
      have h5 := h1.restr (restrict_spec hr)
      simp only [Tree.holds] at hF
      cases hu : unS ts bs s'' with
      | none => rw [hu] at hF; exact absurd hF hbad
      | some x =>
        rw [hu] at hF
        have := unS_eq hu
        subst this
        exact hgo x a' w' hF h5 h2 h3 h4
  | ret =>
    have hF' := holds_bind.1 hF
    have key : ∀ (t : Tree (dens res)), t = evRes C fn res (.normal, s') → t.holds (fun y => (Tree.leaf (some y, none)).holds G) → Q .ret a' w' := by
      intro t ht hh
      cases t with
      | leaf y => exact hret y s' a' w' hh h1 h3 (by rw [← ht]; rfl)
      | stuck => exact hh.elim
      | br c t e =>
        exfalso
        simp only [evRes] at ht
        split at ht
        · cases ht
        · split at ht <;> cases ht
      | need p t =>
        exfalso
        simp only [evRes] at ht
        split at ht
        · cases ht
        · split at ht <;> cases ht
    exact key _ rfl hF'
  | exit id => exact hF.elim
  | die v => exact hF.elim

/-! A channel kept beside the evaluator -/
theorem IsSt.bool {R : Ref} {s : St} {d : Nat} {t : Bool} (h : IsSt R s a w) (hl : s.look d = .val .bool t) : a.eval (.tmp d) = .bool t := by
  obtain ⟨M, _, _, _, hr⟩ := h
  have := hr d
  rw [hl] at this
  obtain ⟨cs, h1, h2⟩ := this
  have h3 : cs = [.bool t] := h1
  subst h3
  exact h2

/-- In these slots this is known; slot d holds a channel, and what the channel is. -/
structure Hd (R0 : Ref) (c : Nat) (obj : Obj) (n d : Nat) (s : St) (a : Act) (w : World) : Prop where
  new : R0.w0.heap.size ≤ c
  size : a.tmps.size = n
  defers : a.defers = []
  slot : a.tmps.getD d undef = .chan (some c)
  st : ∃ R : Ref, R.w0.heap[c]? = some obj ∧ ¬ R.own c ∧ IsSt R s a w ∧ ∀ s2 a2 w2, IsSt R s2 a2 w2 → IsSt R0 s2 a2 w2

variable {R0 : Ref} {c : Nat} {obj : Obj} {n d : Nat} {s : St}

theorem Hd.heap (h : Hd R0 c obj n d s a w) : w.heap[c]? = some obj := by
  obtain ⟨R, h1, h2, h3, _⟩ := h.st
  rw [h3.frame (Array.getElem?_eq_some_iff.1 h1).1 h2]
  exact h1
theorem Hd.old (h : Hd R0 c obj n d s a w) : IsSt R0 s a w := by
  obtain ⟨R, _, _, h3, h4⟩ := h.st
  exact h4 _ _ _ h3
theorem Hd.restr {L : LoopSpec} {s' : St} (h : Hd R0 c obj n d s a w) (hr : restrict L s = some s') : Hd R0 c obj n d s' a w := by
  obtain ⟨R, h1, h2, h3, h4⟩ := h.st
  exact ⟨h.new, h.size, h.defers, h.slot, R, h1, h2, h3.restr (restrict_spec hr), h4⟩
theorem Hd.undef {k : Nat} {v : Value} (h : Hd R0 c obj n d s a w) (hl : s.look k = .undef) (hk : k < n) (hd : d ≠ k) : Hd R0 c obj n d s (a.put (some k) v) w := by
  obtain ⟨R, h1, h2, h3, h4⟩ := h.st
  have hk' : k < a.tmps.size := by rw [h.size]; exact hk
  exact ⟨h.new, (put_size _ _ _).trans h.size, (put_defers' _ _ _).trans h.defers, (put_same hk' hd).trans h.slot, R, h1, h2, h3.put_undef hl hk', h4⟩
theorem Hd.known {k : Nat} {v : Value} {av : AV} (h : Hd R0 c obj n d s a w) (hv : ∀ M, RelV M av v) (hk : k < n) (hd : d ≠ k) : Hd R0 c obj n d (s.put k av) (a.put (some k) v) w := by
  obtain ⟨R, h1, h2, h3, h4⟩ := h.st
  have hk' : k < a.tmps.size := by rw [h.size]; exact hk
  exact ⟨h.new, (put_size _ _ _).trans h.size, (put_defers' _ _ _).trans h.defers, (put_same hk' hd).trans h.slot, R, h1, h2, h3.put_known hv hk', h4⟩
theorem Hd.set {cap cap' sn rn sn' rn' : Nat} {buf buf' : Array Value} {cl cl' tm tm' : Bool} (h : Hd R0 c (.chan cap buf cl sn rn tm) n d s a w) : Hd R0 c (.chan cap' buf' cl' sn' rn' tm') n d s a (w.setChan c cap' buf' cl' sn' rn' tm') := by
  have hc := h.heap
  have hlt : c < w.heap.size := (Array.getElem?_eq_some_iff.1 hc).1
  have hs := heap_setChan w c cap' buf' cl' sn' rn' tm' hlt
  obtain ⟨R', h1, h2, h3, h4⟩ := rebase (w' := w.setChan c cap' buf' cl' sn' rn' tm') h.old c rfl rfl rfl (by rw [size_setChan]; exact Nat.le_refl _) (fun k _ hk => by simp [World.setChan, Array.getElem?_setIfInBounds_ne (Ne.symm hk)]) h.new (fun _ _ _ => by rw [hc]; intro e; cases e) (fun _ _ => by rw [hc]; intro e; cases e) (fun _ _ _ => by rw [hs]; intro e; cases e)
  exact ⟨h.new, h.size, h.defers, h.slot, R', by rw [h1]; exact hs, h2, h3, h4⟩
theorem Hd.op (TOK : TysOK P C.τ) (GOK : CtrsOK P C.Γ) {i : Nat} {o : Oper} {e : Eff} (h : Hd R0 c obj n d s a w) (ho : ops[i]? = some o) (hg : o.guard = none) (he : opEff C.τ C.Γ (o.dst.getD 0) o (s.args o) = some e) (hn : e.ok) (hk : ∀ k, o.dst = some k → k < n ∧ k ≠ d)
    (hnext : ∀ a' w', Hd R0 c obj n d (s.after o e) a' w' → (∀ t, o.dst ≠ some t → a'.tmps.getD t Go.undef = a.tmps.getD t Go.undef) → RegTo P b ops l Q a' w') : RegTo P b ops (i :: l) Q a w := by
  obtain ⟨R, h1, h2, h3, h4⟩ := h.st
  refine RegTo.op TOK GOK ho hg h3 he hn (fun k hk' => by rw [h.size]; exact (hk k hk').1) fun a' w' h5 h6 => hnext a' w' ⟨h.new, h6.size.trans h.size, h6.defers.trans h.defers, (h6.tmps d (fun hd => (hk d hd).2 rfl)).trans h.slot, R, h1, h2, h5, h4⟩ (fun t ht => h6.tmps t ht)
theorem Hd.move {i k : Nat} {o : Oper} (h : Hd R0 c obj n d s a w) (ho : ops[i]? = some o) (hg : o.guard = none) (hop : o.op = .move (.tmp d)) (hdst : o.dst = some k) (hl : s.look k = .undef) (hk : k < n) (hd : d ≠ k)
    (hnext : ∀ a', Hd R0 c obj n d s a' w → a'.tmps.getD k Go.undef = .chan (some c) → RegTo P b ops l Q a' w) : RegTo P b ops (i :: l) Q a w := by
  refine RegTo.value (v := .chan (some c)) (w' := w) ho hg ?_ ?_
  · have he : a.eval (.tmp d) = .chan (some c) := h.slot
    unfold execOp
    rw [hop]
    simp only [he]
    rfl
  · rw [hdst]
    exact hnext _ (h.undef hl hk hd) (put_at (by rw [h.size]; exact hk))
def calmL (n d : Nat) (cs : List Code) : Bool := cs.all fun x => (loopsOf x).isEmpty && (writes x).all fun t => Nat.blt t n && !(Nat.beq t d)
theorem calmL_lam {cs : List Code} (h : calmL n d cs = true) : ∀ x ∈ cs, LamOK C x := fun x hx => by
  unfold calmL at h
  rw [List.all_eq_true] at h
  have h1 := h x hx
  rw [Bool.and_eq_true] at h1
  have h2 : loopsOf x = [] := by simpa using h1.1
  exact lam_of x fun id body hm => by rw [h2] at hm; cases hm
theorem calmL_wr {cs : List Code} (h : calmL n d cs = true) : ∀ x ∈ cs, ∀ t ∈ writes x, t < n ∧ t ≠ d := fun x hx t ht => by
  unfold calmL at h
  rw [List.all_eq_true] at h
  have h1 := h x hx
  rw [Bool.and_eq_true, List.all_eq_true] at h1
  have h2 := h1.2 t ht
  rw [Bool.and_eq_true, Nat.blt_eq] at h2
  exact ⟨h2.1, fun e => by subst e; simp at h2⟩
theorem Hd.piece (TOK : TysOK P C.τ) (GC : CtrsOK P C.Γ) (hmix : P.follows .mixedOrders = true) {fn : Func} {res : List GTy} {ts : List (Nat × Sh)} {bs : List (Nat × BSh)} {rest cs : List Code} {G : Option (dens res) × Option (ShT ts × ShB bs) → Prop} (h : Hd R0 c obj n d s a w) (hcalm : calmL n d cs = true) (hG : (pieceT C fn res ts bs cs s).holds G)
    (hret : ∀ y s' a' w', G (some y, none) → IsSt R0 s' a' w' → a'.defers = [] → (evRes C fn res (.normal, s')).holds (fun z => z = y) → Q .ret a' w')
    (hgo : ∀ x a' w', G (none, some x) → Hd R0 c obj n d (mkS ts bs x) a' w' → LTo P b rest Q a' w')
    (hbad : ¬ G (none, none)) (DK : DsOK P C := by exact dsOK_nil rfl) : LTo P b (cs ++ rest) Q a w := by
  obtain ⟨R, h1, h2, h3, h4⟩ := h.st
  have hsz := calmL_wr hcalm
  refine piece_to (DK := DK) TOK GC hmix (calmL_lam hcalm) (fun x hx t ht => by rw [h.size]; exact (hsz x hx t ht).1) h3 hG ?_ ?_ hbad
  · intro y s' a' w' k1 k2 k3 k4
    exact hret y s' a' w' k1 (h4 _ _ _ k2) (k3.trans h.defers) k4
  · intro x a' w' k1 k2 k3 k4 k5
    exact hgo x a' w' k1 ⟨h.new, k3.trans h.size, k4.trans h.defers, (k5 d (fun x hx ht => (hsz x hx d ht).2 rfl)).trans h.slot, R, h1, h2, k2, h4⟩
/-- A call is at its end, and this is what it answers. -/
def finQ (C : Ctx) (fn : Func) (res : List GTy) (R0 : Ref) (y : dens res) (e : Exit) (a' : Act) (w' : World) : Prop :=
  (e = .normal ∨ e = .ret) ∧ a'.defers = [] ∧ ∃ s', IsSt R0 s' a' w' ∧ (evRes C fn res (.normal, s')).holds (fun z => z = y)

theorem ctr_of_to (TOK : TysOK P C.τ) {f : Nat} {k : Ctr} (hf : (P.funcs[f]?).isSome = true) (hname : ((fnOf P f).name == "runtime.NumGoroutine") = false) (hbody : (fnOf P f).body.isSome = true) (hn : ∀ x, (resL k.args x).length ≤ (fnOf P f).ntmps)
    (h : ∀ (R0 : Ref) (b : Frame) (x : dens k.args) (a : Act), b.kind ≠ .early → wtD k.args x → (∀ p, k.pre = some p → p x) → IsSt R0 { tmps := number 0 (resL k.args x), boxes := [] } a R0.w0 → a.tmps.size = (fnOf P f).ntmps → a.defers = [] →
      LTo P b (seqs (bodyOf (fnOf P f))) (finQ C (fnOf P f) k.res R0 (k.fn x)) a R0.w0) : CtrOK P f k := by
  refine ⟨⟨_, fnOf_eq hf, by rw [bodyOf_eq hbody]; rfl, hname⟩, fun w S us x hS hT henc hpre => ?_⟩
  have h0 := start_st (n := (fnOf P f).ntmps) hS hT henc
  have hlen := (resL_rel (M := ⟨w, S, fun _ => undef, []⟩) henc).length
  have hx := hn x
  refine calls_of_to (fnOf_eq hf) (bodyOf_eq hbody) ?_
  refine CodeTo.mono (CodeTo.seqs (h ⟨w, fun _ => False, S, hT⟩ _ x _ (fun e => by cases e) henc.wt hpre h0 (by simp; omega) rfl)) ?_
  rintro e a' w' ⟨he, hd, s', h1, h2⟩
  exact ⟨he, hd, finish_st TOK h1 h2⟩
end
end Go.Ev
/- Another world to start from, but for a set of blocks that no box owns. -/
set_option linter.unusedVariables false
set_option linter.unusedSimpArgs false
namespace Go.Ev
theorem rebaseK {R0 R : Ref} {K K' : Nat → Prop} {s : St} {a : Act} {w w' : World} (h : IsSt R s a w) (back : ∀ M, InvM R M → InvM R0 M) (hK : ∀ k, K k → k < R.w0.heap.size ∧ ¬ R.own k ∧ ∀ o, ¬ R.S0 k o)
    (hK' : ∀ k, K' k → K k ∨ w.heap.size ≤ k) (hnew : ∀ k, K' k → R0.w0.heap.size ≤ k) (hlt : ∀ k, K' k → k < w'.heap.size)
    (hos : w'.os = w.os) (htape : w'.tape = w.tape) (hout : w'.output = w.output) (hsz : w.heap.size ≤ w'.heap.size) (hcell : ∀ k, k < w.heap.size → ¬ K' k → w'.heap[k]? = w.heap[k]?) :
    ∃ R' : Ref, R'.w0 = w' ∧ (∀ k, K' k → k < R'.w0.heap.size ∧ ¬ R'.own k ∧ ∀ o, ¬ R'.S0 k o) ∧ IsSt R' s a w' ∧ ∀ M, InvM R' M → InvM R0 M := by
  obtain ⟨M, rfl, hb, I, hr⟩ := h
  have I0 := back M I
  have noS : ∀ k o, K' k → ¬ M.S k o := by
    intro k o hk hs
    obtain ⟨h1, h2⟩ := I.here k o hs
    rcases hK' k hk with h3 | h3
    · obtain ⟨g1, g2, g3⟩ := hK k h3
      rcases h1 with h1 | h1 | h1
      · exact g3 o h1
      · omega
      · exact g2 h1
    · omega
  have notK : ∀ k, R.new k → k < M.w.heap.size → ¬ K' k := by
    intro k hn hl hk
    rcases hK' k hk with h3 | h3
    · obtain ⟨g1, g2, g3⟩ := hK k h3
      rcases hn with h1 | h1
      · omega
      · exact g2 h1
    · omega
  have hblk' : ∀ b d B, lk b M.bs = some (d, B) → ∀ k, blkOf (M.β b) = some k → ¬ K' k := by
    intro b d B hB k hk
    have hRB := I.boxes b d B hB
    have hl := hRB.lt k hk
    refine notK k ?_ hl
    cases B with
    | var g x =>
      obtain ⟨blk, cs, e, h1, h2, h3, h4, h5⟩ := hRB
      rw [h1] at hk
      simp [blkOf] at hk
      subst hk
      exact h5
    | row e g xs fz =>
      obtain ⟨cs, h1, h2, h3, h4, h5, h6⟩ := hRB
      exact (h6 k hk).1
    | iter y pos => exact hRB.new k hk
  have hk : Keeps M.S M.S M.w w' := by
    intro k o hS
    exact ⟨hS, cell_of_heap (hcell k (I.here k o hS).2 (fun hk => noS k o hk hS))⟩
  have ref : ∀ {R1 R2 : Ref} {v : Value} {B : Box} {W : World} {S : Stab}, (∀ blk, R1.new blk → blkOf v = some blk → R2.new blk) → RelB R1 W S v B → RelB R2 W S v B := by
    intro R1 R2 v B W S hn hB
    cases B with
    | var g x =>
      obtain ⟨blk, cs, e, h1, h2, h3, h4, h5⟩ := hB
      exact ⟨blk, cs, e, h1, h2, h3, h4, hn blk h5 (by rw [h1]; rfl)⟩
    | row e g xs fz =>
      obtain ⟨cs, h1, h2, h3, h4, h5, h6⟩ := hB
      exact ⟨cs, h1, h2, h3, h4, h5, fun blk hb => ⟨hn blk (h6 blk hb).1 hb, (h6 blk hb).2⟩⟩
    | iter y pos =>
      obtain ⟨blk, h1, h2, h3, h4, h5⟩ := hB
      exact ⟨blk, h1, h2, h3, h4, hn blk h5 (by rw [h1]; rfl)⟩
  have st : Step M { M with w := w' } (fun _ => False) := ⟨hk, fun b d B h _ => ⟨d, B, h, rfl, Box.le_refl B⟩⟩
  refine ⟨⟨w', fun k => R0.new k ∧ ¬ K' k, M.S, (R0.tab.keeps I0.old).keeps hk⟩, rfl, fun k h => ⟨hlt k h, fun g => g.2 h, fun o => noS k o h⟩, ?_, ?_⟩
  · refine ⟨{ M with w := w' }, rfl, hb, ⟨rfl, rfl, rfl, Nat.le_refl _, fun _ _ _ => rfl, Keeps.refl _ _, fun b o hs => ⟨.inl hs, Nat.lt_of_lt_of_le (I.here b o hs).2 hsz⟩, fun b d B hB => ?_, I.sep⟩, fun t => (hr t).step st (fun b hb => hb.elim)⟩
    have hRB := I0.boxes b d B hB
    have hm := hRB.move hk (fun blk hblk => hcell blk (hRB.lt blk hblk) (hblk' b d B hB blk hblk)) (fun blk o hblk hs => hs)
    exact ref (fun blk hn hv => .inr ⟨hn, hblk' b d B hB blk hv⟩) hm
  · intro M2 I2
    refine ⟨I2.os.trans (hos.trans I0.os), I2.tape.trans (htape.trans I0.tape), I2.output.trans (hout.trans I0.output), Nat.le_trans I0.size (Nat.le_trans hsz I2.size), ?_, I0.old.trans (hk.trans I2.old), ?_, ?_, I2.sep⟩
    · intro k h1 h2
      have hkc : ¬ K' k := fun h => by have := hnew k h; omega
      have hno : ¬ (R0.new k ∧ ¬ K' k) := by
        rintro ⟨h3 | h3, _⟩
        · omega
        · exact h2 h3
      have h4 : k < M.w.heap.size := Nat.lt_of_lt_of_le h1 I0.size
      exact (I2.frame k (Nat.lt_of_lt_of_le h4 hsz) hno).trans ((hcell k h4 hkc).trans (I0.frame k h1 h2))
    · intro b o hs
      obtain ⟨h1, h2⟩ := I2.here b o hs
      refine ⟨?_, h2⟩
      rcases h1 with h1 | h1 | h1
      · exact (I0.here b o h1).1
      · exact .inr (.inl (Nat.le_trans (Nat.le_trans I0.size hsz) h1))
      · exact .inr h1.1
    · intro b d B hB
      refine ref (fun blk hn _ => ?_) (I2.boxes b d B hB)
      rcases hn with h1 | h1
      · exact .inl (Nat.le_trans (Nat.le_trans I0.size hsz) h1)
      · exact h1.1

section
variable {P : Program} {C : Ctx} {b : Frame} {Q : Exit → Act → World → Prop} {a : Act} {w : World} {ops : Array Oper} {l : List Nat}
/-- In these slots this is known; some slots hold these values; these blocks are such. -/
structure Kd (R0 : Ref) (K : Nat → Prop) (W : Nat → Option Obj) (n : Nat) (sl : List (Nat × Value)) (s : St) (a : Act) (w : World) : Prop where
  new : ∀ k, K k → R0.w0.heap.size ≤ k
  size : a.tmps.size = n
  defers : a.defers = []
  slots : ∀ p ∈ sl, a.tmps.getD p.1 undef = p.2
  st : ∃ R : Ref, (∀ k, K k → k < R.w0.heap.size ∧ ¬ R.own k ∧ ∀ o, ¬ R.S0 k o) ∧ (∀ k, K k → R.w0.heap[k]? = W k) ∧ IsSt R s a w ∧ ∀ M, InvM R M → InvM R0 M
variable {R0 : Ref} {K : Nat → Prop} {W : Nat → Option Obj} {n : Nat} {sl : List (Nat × Value)} {s : St}
theorem Kd.heap (h : Kd R0 K W n sl s a w) {k : Nat} (hk : K k) : w.heap[k]? = W k := by
  obtain ⟨R, h1, h2, h3, _⟩ := h.st
  rw [h3.frame (h1 k hk).1 (h1 k hk).2.1]
  exact h2 k hk
theorem Kd.old (h : Kd R0 K W n sl s a w) : IsSt R0 s a w := by
  obtain ⟨R, _, _, ⟨M, hM, hb, I, hr⟩, h4⟩ := h.st
  exact ⟨M, hM, hb, h4 M I, hr⟩
theorem Kd.start (h : IsSt R0 s a w) (hs : a.tmps.size = n) (hd : a.defers = []) (hsl : ∀ p ∈ sl, a.tmps.getD p.1 undef = p.2) : Kd R0 (fun _ => False) W n sl s a w :=
  ⟨fun _ h => h.elim, hs, hd, hsl, R0, fun _ h => h.elim, fun _ h => h.elim, h, fun _ I => I⟩
theorem Kd.world {K' : Nat → Prop} {W' : Nat → Option Obj} {w' : World} (h : Kd R0 K W n sl s a w) (hK' : ∀ k, K' k → K k ∨ w.heap.size ≤ k) (hlt : ∀ k, K' k → k < w'.heap.size) (hW : ∀ k, K' k → w'.heap[k]? = W' k)
    (hos : w'.os = w.os) (htape : w'.tape = w.tape) (hout : w'.output = w.output) (hsz : w.heap.size ≤ w'.heap.size) (hcell : ∀ k, k < w.heap.size → ¬ K' k → w'.heap[k]? = w.heap[k]?) : Kd R0 K' W' n sl s a w' := by
  have hg := h.old.grow
  obtain ⟨R, h1, h2, h3, h4⟩ := h.st
  have hn : ∀ k, K' k → R0.w0.heap.size ≤ k := fun k hk => by
    rcases hK' k hk with h5 | h5
    · exact h.new k h5
    · omega
  obtain ⟨R', e, g1, g2, g3⟩ := rebaseK h3 h4 h1 hK' hn hlt hos htape hout hsz hcell
  exact ⟨hn, h.size, h.defers, h.slots, R', g1, fun k hk => by rw [e]; exact hW k hk, g2, g3⟩
theorem Kd.restr {L : LoopSpec} {s' : St} (h : Kd R0 K W n sl s a w) (hr : restrict L s = some s') : Kd R0 K W n sl s' a w := by
  obtain ⟨R, h1, h2, h3, h4⟩ := h.st
  exact ⟨h.new, h.size, h.defers, h.slots, R, h1, h2, h3.restr (restrict_spec hr), h4⟩
/-- A slot that nothing is known of takes a value that is to be kept. -/
theorem Kd.keep {k : Nat} {v : Value} (h : Kd R0 K W n sl s a w) (hl : s.look k = .undef) (hk : k < n) (hd : ∀ p ∈ sl, p.1 ≠ k) : Kd R0 K W n ((k, v) :: sl) s (a.put (some k) v) w := by
  obtain ⟨R, h1, h2, h3, h4⟩ := h.st
  have hk' : k < a.tmps.size := by rw [h.size]; exact hk
  refine ⟨h.new, (put_size _ _ _).trans h.size, (put_defers' _ _ _).trans h.defers, fun p hp => ?_, R, h1, h2, h3.put_undef hl hk', h4⟩
  rcases List.mem_cons.1 hp with rfl | hp
  · exact put_at hk'
  · exact (put_same hk' (hd p hp)).trans (h.slots p hp)
theorem Kd.less {sl' : List (Nat × Value)} (h : Kd R0 K W n sl s a w) (hs : ∀ p ∈ sl', p ∈ sl) : Kd R0 K W n sl' s a w :=
  ⟨h.new, h.size, h.defers, fun p hp => h.slots p (hs p hp), h.st⟩
theorem Kd.op (TOK : TysOK P C.τ) (GOK : CtrsOK P C.Γ) {i : Nat} {o : Oper} {e : Eff} (h : Kd R0 K W n sl s a w) (ho : ops[i]? = some o) (hg : o.guard = none) (he : opEff C.τ C.Γ (o.dst.getD 0) o (s.args o) = some e) (hn : e.ok) (hk : ∀ k, o.dst = some k → k < n ∧ ∀ p ∈ sl, p.1 ≠ k)
    (hnext : ∀ a' w', Kd R0 K W n sl (s.after o e) a' w' → RegTo P b ops l Q a' w') : RegTo P b ops (i :: l) Q a w := by
  obtain ⟨R, h1, h2, h3, h4⟩ := h.st
  refine RegTo.op TOK GOK ho hg h3 he hn (fun k hk' => by rw [h.size]; exact (hk k hk').1) fun a' w' h5 h6 => hnext a' w' ⟨h.new, h6.size.trans h.size, h6.defers.trans h.defers, fun p hp => (h6.tmps p.1 (fun hd => (hk p.1 hd).2 p hp rfl)).trans (h.slots p hp), R, h1, h2, h5, h4⟩
/-- Pieces that keep out of these slots. -/
def farL (ts : List Nat) (cs : List Code) : Bool := cs.all fun x => (writes x).all fun t => ts.all fun d => !(Nat.beq t d)
theorem farL_out {ts : List Nat} {cs : List Code} (h : farL ts cs = true) {d : Nat} (hd : d ∈ ts) : ∀ x ∈ cs, d ∉ writes x := fun x hx ht => by
  unfold farL at h
  rw [List.all_eq_true] at h
  have h1 := h x hx
  rw [List.all_eq_true] at h1
  have h2 := h1 d ht
  rw [List.all_eq_true] at h2
  have h3 := h2 d hd
  simp at h3
theorem Kd.piece (TOK : TysOK P C.τ) (GC : CtrsOK P C.Γ) (hmix : P.follows .mixedOrders = true) {fn : Func} {res : List GTy} {ts : List (Nat × Sh)} {bs : List (Nat × BSh)} {rest cs : List Code} {G : Option (dens res) × Option (ShT ts × ShB bs) → Prop} (h : Kd R0 K W n sl s a w) (hcalm : calmL n n cs = true) (hfar : farL (sl.map (·.1)) cs = true) (hG : (pieceT C fn res ts bs cs s).holds G)
    (hret : ∀ y s' a' w', G (some y, none) → IsSt R0 s' a' w' → a'.defers = [] → (evRes C fn res (.normal, s')).holds (fun z => z = y) → Q .ret a' w')
    (hgo : ∀ x a' w', G (none, some x) → Kd R0 K W n sl (mkS ts bs x) a' w' → LTo P b rest Q a' w')
    (hbad : ¬ G (none, none)) (DK : DsOK P C := by exact dsOK_nil rfl) : LTo P b (cs ++ rest) Q a w := by
  obtain ⟨R, h1, h2, h3, h4⟩ := h.st
  have hsz := calmL_wr hcalm
  refine piece_to (DK := DK) TOK GC hmix (calmL_lam hcalm) (fun x hx t ht => by rw [h.size]; exact (hsz x hx t ht).1) h3 hG ?_ ?_ hbad
  · rintro y s' a' w' k1 ⟨M, hM, hb, I, hr⟩ k3 k4
    exact hret y s' a' w' k1 ⟨M, hM, hb, h4 M I, hr⟩ (k3.trans h.defers) k4
  · intro x a' w' k1 k2 k3 k4 k5
    exact hgo x a' w' k1 ⟨h.new, k3.trans h.size, k4.trans h.defers, fun p hp => (k5 p.1 (farL_out hfar (List.mem_map_of_mem hp))).trans (h.slots p hp), R, h1, h2, k2, h4⟩
/-- A loop, with what holds at its head and what goes down. -/
theorem CodeTo.loop {c : Code} (I : Nat → Act → World → Prop) (n0 : Nat) (h0 : I n0 a w) (round : ∀ n a w, I n a w → CodeTo P b c (Exit.then (fun a' w' => ∃ m, m < n ∧ I m a' w') Q) a w) : CodeTo P b (.loop c) Q a w := by
  intro k cs
  have key : ∀ n a w, I n a w → ∃ e a' w', Q e a' w' ∧ Arrives P (lone (b.at a (.code c :: .inLoop c :: k)) cs w) b k cs e a' w' := by
    intro n
    induction n using Nat.strongRecOn with
    | _ n ih =>
      intro a w hI
      obtain ⟨e, a1, w1, hq, harr⟩ := round n a w hI (.inLoop c :: k) cs
      cases e with
      | normal =>
        obtain ⟨m, hlt, hI1⟩ := hq
        obtain ⟨e2, a2, w2, hq2, harr2⟩ := ih m hlt a1 w1 hI1
        exact ⟨e2, a2, w2, hq2, .of_steps (Steps.trans harr (.one step_inLoop)) harr2⟩
      | exit id => exact ⟨_, a1, w1, hq, .pass (x := .inLoop c) rfl (fun _ _ => .inl (by simp)) harr⟩
      | goto l => exact ⟨_, a1, w1, hq, .pass (x := .inLoop c) rfl (fun _ _ => .inl (by simp)) harr⟩
      | ret => exact ⟨_, a1, w1, hq, .pass (x := .inLoop c) rfl (fun _ _ => .inl (by simp)) harr⟩
      | panic ch => exact ⟨_, a1, w1, hq, .pass (x := .inLoop c) rfl (fun _ _ => .inl (by simp)) harr⟩
      | outgrown => exact ⟨_, a1, w1, hq, .pass (x := .inLoop c) rfl (fun _ _ => .inl (by simp)) harr⟩
  obtain ⟨e, a', w', hq, harr⟩ := key n0 a w h0
  exact ⟨e, a', w', hq, .of_steps (.one step_loop) harr⟩
/-- A block: its own exit is its end. -/
theorem CodeTo.block {id : Nat} {c : Code} (h : CodeTo P b c (Exit.inBlock id Q) a w) : CodeTo P b (.block id c) Q a w := by
  intro k cs
  obtain ⟨e, a1, w1, hq, harr⟩ := h (.inBlock id :: k) cs
  cases e with
  | normal => exact ⟨.normal, a1, w1, hq, .head step_block (Steps.trans harr (.one step_inBlock))⟩
  | exit id' =>
    by_cases hid : id' = id
    · simp only [Exit.inBlock, hid, if_true] at hq
      exact ⟨.normal, a1, w1, hq, .head step_block (harr k (by simp [exitTo, hid]))⟩
    · simp only [Exit.inBlock, hid, if_false] at hq
      refine ⟨.exit id', a1, w1, hq, fun k' hk => .head step_block (harr k' ?_)⟩
      have : (id == id') = false := by simp; exact fun h => hid h.symm
      simp [exitTo, this, hk]
  | goto l => exact ⟨_, a1, w1, hq, fun k' hk => .head step_block (harr k' (by simp [gotoIn, hk]))⟩
  | ret => exact ⟨_, a1, w1, hq, .of_steps (.one step_block) harr⟩
  | panic ch => exact ⟨_, a1, w1, hq, .of_steps (.one step_block) harr⟩
  | outgrown => exact ⟨_, a1, w1, hq, .of_steps (b := b) (k := k) (cs := cs) (e := .outgrown) (.one step_block) harr⟩
theorem CodeTo.exit {id : Nat} (h : Q (.exit id) a w) : CodeTo P b (.exit id) Q a w := fun _ _ => ⟨.exit id, a, w, h, fun _ hk => .one (step_exit hk)⟩
end
end Go.Ev
/- A call beside the evaluator: of a function, or of a function value, whose Calls is given. -/
set_option linter.unusedVariables false
set_option linter.unusedSimpArgs false
namespace Go.Ev
open Go.Conc
theorem yields_call {P : Program} {ρ : Operand → Value} {o : Oper} {w : World} {K : Value → World → Prop} {x : Operand} {aas : Array Operand} {ts : Array TypeId} {f : Nat} {caps : Array Value} {fn : Func} {R : Ending → World → Prop}
    (ho : o.op = .call { callee := .value x, args := aas, argTypes := ts }) (hx : ρ x = .func (.func f) #[] caps) (hf : P.funcs[f]? = some fn) (hb : fn.body.isNone = false) (hn : (fn.name == "runtime.NumGoroutine") = false)
    (h : Calls P f (aas.map ρ ++ caps) w R) (hR : ∀ e w', R e w' → ∃ v, e = .returned v ∧ K v w') : Yields P ρ o w K := by
  have hrun : (execOp ρ o).run P w = .ok (.enter f (aas.map ρ ++ caps)) w := by
    simp only [execOp, ho, resolve, hx, Deferred.ofValue, Sem.run_bind]
    have h2' : ¬ fn.body = none := by intro hh; rw [hh] at hb; simp at hb
    have h3' : ¬ fn.name = "runtime.NumGoroutine" := by simpa using hn
    simp [invoke, callFunc, hf, h2', h3']
  unfold Yields
  rw [hrun]
  exact h.mono hR
section
variable {P : Program} {C : Ctx} {b : Frame} {Q : Exit → Act → World → Prop} {a : Act} {w : World} {ops : Array Oper} {l : List Nat} {R0 : Ref} {K : Nat → Prop} {W : Nat → Option Obj} {n : Nat} {sl : List (Nat × Value)} {s : St}
/-- What a part of a tuple is. -/
theorem RegTo.extract {i j : Nat} {o : Oper} {x : Operand} {vs : Array Value} {v : Value} (ho : ops[i]? = some o) (hg : o.guard = none) (hop : o.op = .extract x j) (hx : a.eval x = .tuple vs) (hv : vs[j]? = some v) (h : RegTo P b ops l Q (a.put o.dst v) w) : RegTo P b ops (i :: l) Q a w := by
  refine RegTo.value ho hg (v := v) (w' := w) ?_ h
  unfold execOp
  rw [hop]
  simp [hx, hv, Instr.extract]
/-- A call that writes only kept blocks and new ones; what it leaves in new blocks is kept, or not. -/
theorem Kd.call {i f : Nat} {o : Oper} {x : Operand} {ar : Array Operand} {ts : Array TypeId} {caps args : Array Value} {fn : Func} {R : Ending → World → Prop} (h : Kd R0 K W n sl s a w)
    (ho : ops[i]? = some o) (hg : o.guard = none) (hop : o.op = .call { callee := .value x, args := ar, argTypes := ts }) (hx : a.eval x = .func (.func f) #[] caps) (hargs : ar.map a.eval ++ caps = args) (hf : P.funcs[f]? = some fn) (hb : fn.body.isNone = false) (hn : (fn.name == "runtime.NumGoroutine") = false)
    (hc : Calls P f args w R)
    (hR : ∀ e w', R e w' → ∃ v K' W', e = .returned v ∧ (∀ k, K' k → K k ∨ w.heap.size ≤ k) ∧ (∀ k, K' k → k < w'.heap.size) ∧ (∀ k, K' k → w'.heap[k]? = W' k) ∧ w'.os = w.os ∧ w'.tape = w.tape ∧ w'.output = w.output ∧ w.heap.size ≤ w'.heap.size ∧ (∀ k, k < w.heap.size → ¬ K' k → w'.heap[k]? = w.heap[k]?) ∧
      (Kd R0 K' W' n sl s a w' → RegTo P b ops l Q (a.put o.dst v) w')) : RegTo P b ops (i :: l) Q a w := by
  refine RegTo.yields ho hg (K := fun v w' => RegTo P b ops l Q (a.put o.dst v) w') (yields_call hop hx hf hb hn (hargs ▸ hc) fun e w' hr => ?_) (fun v w' hv => hv)
  obtain ⟨v, K', W', h1, h2, h3, h4, h5, h6, h7, h8, h9, h10⟩ := hR e w' hr
  exact ⟨v, h1, h10 (h.world h2 h3 h4 h5 h6 h7 h8 h9)⟩
theorem LTo.cons {c : Code} {cs : List Code} (h : CodeTo P b c (Exit.then (LTo P b cs Q) Q) a w) : LTo P b (c :: cs) Q a w := h
theorem Kd.known {k : Nat} {v : Value} {av : AV} (h : Kd R0 K W n sl s a w) (hv : ∀ M, RelV M av v) (hk : k < n) (hd : ∀ p ∈ sl, p.1 ≠ k) : Kd R0 K W n sl (s.put k av) (a.put (some k) v) w := by
  obtain ⟨R, h1, h2, h3, h4⟩ := h.st
  have hk' : k < a.tmps.size := by rw [h.size]; exact hk
  exact ⟨h.new, (put_size _ _ _).trans h.size, (put_defers' _ _ _).trans h.defers, fun p hp => (put_same hk' (hd p hp)).trans (h.slots p hp), R, h1, h2, h3.put_known hv hk', h4⟩
/-- Operations of a region, told by the evaluator, read back. -/
def opsT (C : Ctx) (ts : List (Nat × Sh)) (bs : List (Nat × BSh)) (l : List Oper) (s : St) : Tree (Option (ShT ts × ShB bs)) :=
  (runOps C l s).bind fun s' => match restrict { prom := [], keep := ts.map (·.1), boxes := bs.map (·.1), sum := fun _ => .stuck } s' with
    | none => .stuck
    | some s'' => .leaf (unS ts bs s'')
def farO (n : Nat) (ds : List Nat) (l : List Oper) : Bool := l.all fun o => o.guard.isNone && match o.dst with
  | some d => Nat.blt d n && ds.all fun t => !(Nat.beq t d)
  | none => true
theorem Kd.ops_run (TOK : TysOK P C.τ) (GOK : CtrsOK P C.Γ) {F : St → Prop} {l2 : List Nat} : ∀ (l1 : List Nat) {s : St} {a : Act} {w : World}, Kd R0 K W n sl s a w → (∀ i ∈ l1, i < ops.size) → farO n (sl.map (·.1)) (l1.map fun i => ops.getD i default) = true → (runOps C (l1.map fun i => ops.getD i default) s).holds F →
    (∀ s' a' w', F s' → Kd R0 K W n sl s' a' w' → RegTo P b ops l2 Q a' w') → RegTo P b ops (l1 ++ l2) Q a w
  | [], s, a, w, h, _, _, hF, hgo => hgo s a w hF h
  | i :: l1, s, a, w, h, hi, hfar, hF, hgo => by
    have hlt := hi i (by simp)
    have ho : ops[i]? = some (ops.getD i default) := by simp [hlt]
    generalize ops.getD i default = o at *
    have ho2 : ops.getD i default = o := by simp [Array.getD_eq_getD_getElem?, ho]
    simp only [List.map_cons, ho2] at hfar hF
    unfold farO at hfar
    rw [List.all_cons, Bool.and_eq_true, Bool.and_eq_true] at hfar
    obtain ⟨⟨hg, hd⟩, hrest⟩ := hfar
    simp only [runOps] at hF
    split at hF
    · exact hF.elim
    · rename_i e he
      have hF' : e.ok ∧ (runOps C (l1.map fun i => ops.getD i default) (s.after o e)).holds F := by
        cases hn : e.need with
        | none =>
          rw [hn] at hF
          exact ⟨(fun p hp => by rw [hn] at hp; cases hp), hF⟩
        | some p =>
          rw [hn] at hF
          exact ⟨(fun q hq => by rw [hn] at hq; cases hq; exact hF.1), hF.2⟩
      refine h.op TOK GOK ho (by simpa using hg) he hF'.1 (fun k hk => ?_) fun a' w' h' => Kd.ops_run TOK GOK l1 h' (fun j hj => hi j (by simp [hj])) (by unfold farO; exact hrest) hF'.2 hgo
      rw [hk] at hd
      simp only [Bool.and_eq_true, Nat.blt_eq] at hd
      refine ⟨hd.1, fun p hp => ?_⟩
      have := List.all_eq_true.1 hd.2 p.1 (List.mem_map_of_mem hp)
      intro e
      rw [e] at this
      simp at this
theorem Kd.opsL (TOK : TysOK P C.τ) (GOK : CtrsOK P C.Γ) {ts : List (Nat × Sh)} {bs : List (Nat × BSh)} {G : Option (ShT ts × ShB bs) → Prop} {l2 : List Nat} (l1 : List Nat) (h : Kd R0 K W n sl s a w) (hi : (l1.all fun i => Nat.blt i ops.size) = true) (hfar : farO n (sl.map (·.1)) (l1.map fun i => ops.getD i default) = true)
    (hG : (opsT C ts bs (l1.map fun i => ops.getD i default) s).holds G) (hgo : ∀ x a' w', G (some x) → Kd R0 K W n sl (mkS ts bs x) a' w' → RegTo P b ops l2 Q a' w') (hbad : ¬ G none) : RegTo P b ops (l1 ++ l2) Q a w := by
  refine h.ops_run TOK GOK l1 (fun i hm => ?_) hfar (holds_bind.1 hG) fun s' a' w' hF h' => ?_
  · have := List.all_eq_true.1 hi i hm
    simpa [Nat.blt_eq] using this
  · split at hF
    · exact hF.elim
    · rename_i s'' hr
      have h5 := h'.restr hr
      simp only [Tree.holds] at hF
      cases hu : unS ts bs s'' with
      | none => rw [hu] at hF; exact absurd hF hbad
      | some x =>
        rw [hu] at hF
        have := unS_eq hu
        subst this
        exact hgo x a' w' hF h5
end
theorem known_i64 {R : Ref} {s : St} {a : Act} {w : World} {t : Nat} {n : Int} (h : IsSt R s a w) (hl : s.look t = .val (.int .i64) n) : a.tmps.getD t undef = .int .i64 n := by
  obtain ⟨M, _, _, _, hr⟩ := h
  have := hr t
  rw [hl] at this
  obtain ⟨cs, h1, h2⟩ := this
  have h3 : cs = [.int .i64 n] := h1.1
  subst h3
  exact h2
theorem known_u64 {R : Ref} {s : St} {a : Act} {w : World} {t : Nat} {n : Int} (h : IsSt R s a w) (hl : s.look t = .val (.int .u64) n) : a.tmps.getD t undef = .int .u64 n := by
  obtain ⟨M, _, _, _, hr⟩ := h
  have := hr t
  rw [hl] at this
  obtain ⟨cs, h1, h2⟩ := this
  have h3 : cs = [.int .u64 n] := h1.1
  subst h3
  exact h2
def rThen : Code → Code
  | .cond _ x _ => x
  | _ => .skip
def rOps : Code → Array Oper
  | .region _ ops _ => ops
  | _ => #[]
def rOp (c : Code) (i : Nat) : Oper := (rOps c).getD i default
def rNth (c : Code) (i : Nat) : Code := (seqs c).getD i .skip
end Go.Ev
/- Configurations as texts, in plain Lean. -/
set_option linter.unusedVariables false
set_option linter.unusedSimpArgs false
namespace Go.Ev
def numBad (n : Int) : Bool := bif decide (n < (0 : Int)) then true else decide (n > (1073741824 : Int))
def rulesBad (r : DRules) : Bool := bif numBad r.1 then true else bif numBad r.2.1 then true else bif numBad r.2.2.1 then true else numBad r.2.2.2
def headT (c : DConf) : List UInt8 := (([110, 111, 100, 101, 32] ++ textN (withF 0 c.1)) ++ [10, 114, 117, 108, 101, 115]) ++ ([32] ++ itoaF c.2.1.1) ++ ([32] ++ itoaF c.2.1.2.1) ++ ([32] ++ itoaF c.2.1.2.2.1) ++ ([32] ++ itoaF c.2.1.2.2.2) ++ [10]
/-- One link's line. -/
def lineB (c : DCosts) (n : Int) : List UInt8 := ((([108, 105, 110, 107, 32] ++ textN (withF 0 n)) ++ [32]) ++ natT (c.2.getD n.toNat 0).toNat) ++ [10]
def linesB (c : DCosts) (l : List Int) : List UInt8 := l.flatMap (lineB c)
theorem lines_cons (c : DCosts) (j : Int) (l : List Int) : linesB c (j :: l) = lineB c j ++ linesB c l := rfl
theorem lineB_len (c : DCosts) (n : Int) : (lineB c n).length ≤ 60 := by
  have h1 := textN_len (withF 0 n)
  have h3 := digN_len 20 (c.2.getD n.toNat 0).toNat
  unfold lineB natT
  simp only [List.length_append, List.length_cons, List.length_nil]
  omega
def printF (c : DConf) : List UInt8 × Int := bif (bif !rightF c.1 then true else !soundF c.2.2) then ([], 1) else bif rulesBad c.2.1 then ([], 1) else (headT c ++ linesB c.2.2 (elemsF c.2.2.1 16), 0)
theorem print_bad {c : DConf} (h : (bif !rightF c.1 then true else !soundF c.2.2) = true) : ([], (1 : Int)) = printF c := by unfold printF; rw [h]; rfl
theorem print_num {c : DConf} (h : (bif !rightF c.1 then true else !soundF c.2.2) = false) (h2 : rulesBad c.2.1 = true) : ([], (1 : Int)) = printF c := by unfold printF; rw [h, h2]; rfl
theorem print_good {c : DConf} (h : (bif !rightF c.1 then true else !soundF c.2.2) = false) (h2 : rulesBad c.2.1 = false) : (headT c ++ linesB c.2.2 (elemsF c.2.2.1 16), (0 : Int)) = printF c := by unfold printF; rw [h, h2]; rfl
theorem rb1 {r : DRules} (h : numBad r.1 = true) : rulesBad r = true := by unfold rulesBad; rw [h]; rfl
theorem rb2 {r : DRules} (h1 : numBad r.1 = false) (h : numBad r.2.1 = true) : rulesBad r = true := by unfold rulesBad; rw [h1, h]; rfl
theorem rb3 {r : DRules} (h1 : numBad r.1 = false) (h2 : numBad r.2.1 = false) (h : numBad r.2.2.1 = true) : rulesBad r = true := by unfold rulesBad; rw [h1, h2, h]; rfl
theorem rb4 {r : DRules} (h1 : numBad r.1 = false) (h2 : numBad r.2.1 = false) (h3 : numBad r.2.2.1 = false) {b : Bool} (h : numBad r.2.2.2 = b) : rulesBad r = b := by unfold rulesBad; rw [h1, h2, h3, h]; rfl
end Go.Ev
/- Loops told by their steps: round after round, till one does not go on. -/
set_option linter.unusedVariables false
namespace Go.Ev
/-- So many rounds at most. -/
def runF {σ : Type} (stp : σ → Ex × σ) : Nat → σ → Ex × σ
  | 0, x => (.normal, x)
  | n + 1, x => match stp x with
    | (.normal, y) => runF stp n y
    | p => p
theorem runF_go {σ : Type} {stp : σ → Ex × σ} {n : Nat} {x y : σ} (h : stp x = (.normal, y)) : runF stp (n + 1) x = runF stp n y := by
  show (match stp x with | (.normal, y) => runF stp n y | p => p) = _
  rw [h]
theorem runF_end {σ : Type} {stp : σ → Ex × σ} {n : Nat} {x : σ} (h : (stp x).1 ≠ .normal) : runF stp (n + 1) x = stp x := by
  show (match stp x with | (.normal, y) => runF stp n y | p => p) = _
  split
  · rename_i y hy
    rw [hy] at h
    exact absurd rfl h
  · rfl
/-- Enough rounds are enough. -/
theorem runF_fuel {σ : Type} {stp : σ → Ex × σ} {pre : σ → Prop} {μ : σ → Nat} (h : ∀ x, pre x → (stp x).1 = .normal → pre (stp x).2 ∧ μ (stp x).2 < μ x) : ∀ n m x, pre x → μ x < n → μ x < m → runF stp n x = runF stp m x
  | 0, _, _, _, h1, _ => by omega
  | _ + 1, 0, _, _, _, h1 => by omega
  | n + 1, m + 1, x, hp, h1, h2 => by
    by_cases hn : (stp x).1 = .normal
    · have e : stp x = (.normal, (stp x).2) := Prod.ext hn rfl
      obtain ⟨h3, h4⟩ := h x hp hn
      rw [runF_go e, runF_go e]
      exact runF_fuel h n m _ h3 (by omega) (by omega)
    · rw [runF_end hn, runF_end hn]
/-- What holds at each round's head, and what comes of it. -/
theorem runF_inv {σ : Type} {stp : σ → Ex × σ} {J : σ → Prop} {Post : Ex × σ → Prop} {μ : σ → Nat} (h : ∀ x, J x → ((stp x).1 = .normal → J (stp x).2 ∧ μ (stp x).2 < μ x) ∧ ((stp x).1 ≠ .normal → Post (stp x))) : ∀ n x, J x → μ x < n → Post (runF stp n x)
  | 0, _, _, h1 => by omega
  | n + 1, x, hp, h1 => by
    obtain ⟨h2, h3⟩ := h x hp
    by_cases hn : (stp x).1 = .normal
    · have e : stp x = (.normal, (stp x).2) := Prod.ext hn rfl
      obtain ⟨h4, h5⟩ := h2 hn
      rw [runF_go e]
      exact runF_inv h n _ h4 (by omega)
    · rw [runF_end hn]
      exact h3 hn
def isRet : Ex → Bool
  | .ret => true
  | _ => false
/-- A loop that ends in one way. -/
def out1 {σ : Type} (id : Nat) (p : Ex × σ) : Tree (Ex × σ) := .leaf (.exit id, p.2)
/-- A loop that ends, or leaves the function. -/
def out2 {σ : Type} (id : Nat) (p : Ex × σ) : Tree (Ex × σ) := .br (isRet p.1) (.leaf (.ret, p.2)) (.leaf (.exit id, p.2))
section
variable {C : Ctx} {body : Code} {D : LoopD}
theorem loopF_ok {T : ShT D.ts × ShB D.bs → Tree (Ex × Option (ShT D.ts × ShB D.bs))} (hstep : ∀ x, roundOf C D body x = T x) (stp : ShT D.ts × ShB D.bs → Ex × (ShT D.ts × ShB D.bs)) (μ : ShT D.ts × ShB D.bs → Nat)
    (O : Ex × (ShT D.ts × ShB D.bs) → Tree (Ex × (ShT D.ts × ShB D.bs))) (hD : ∀ x, D.out x = O (runF stp (μ x + 1) x)) (hO : ∀ x, D.pre x → (stp x).1 ≠ .normal → ∀ G, (O (stp x)).holds G → G (stp x))
    (h : ∀ x, D.pre x → ((T x).holds fun p => p = ((stp x).1, some (stp x).2)) ∧ ((stp x).1 = .normal → D.pre (stp x).2 ∧ μ (stp x).2 < μ x)) : LoopOK C D.spec body :=
  loopD_ok hstep μ fun x hp => by
    obtain ⟨h1, h2⟩ := h x hp
    refine holds_mono ?_ h1
    rintro p rfl
    refine ⟨(stp x).2, rfl, ?_⟩
    by_cases hn : (stp x).1 = .normal
    · obtain ⟨h3, h4⟩ := h2 hn
      have e : stp x = (.normal, (stp x).2) := Prod.ext hn rfl
      simp only [hn]
      refine ⟨h3, h4, fun G hG => ?_⟩
      rw [hD, runF_go e, runF_fuel (pre := D.pre) (μ := μ) (fun y hy => (h y hy).2) (μ x) (μ (stp x).2 + 1) _ h3 h4 (by omega)] at hG
      rw [hD]
      exact hG
    · have hfin : ∀ G, (D.out x).holds G → G ((stp x).1, (stp x).2) := fun G hG => by
        rw [hD, runF_end hn] at hG
        exact hO x hp hn G hG
      cases he : (stp x).1 with
      | normal => exact absurd he hn
      | exit k => rw [he] at hfin; exact hfin
      | ret => rw [he] at hfin; exact hfin
      | die v => rw [he] at hfin; exact hfin
/-- … that ends in one way. -/
theorem loopF1_ok {T : ShT D.ts × ShB D.bs → Tree (Ex × Option (ShT D.ts × ShB D.bs))} (hstep : ∀ x, roundOf C D body x = T x) {id : Nat} (stp : ShT D.ts × ShB D.bs → Ex × (ShT D.ts × ShB D.bs)) (μ : ShT D.ts × ShB D.bs → Nat) (hD : ∀ x, D.out x = out1 id (runF stp (μ x + 1) x))
    (he : ∀ x, (stp x).1 = .normal ∨ (stp x).1 = .exit id) (h : ∀ x, D.pre x → ((T x).holds fun p => p = ((stp x).1, some (stp x).2)) ∧ ((stp x).1 = .normal → D.pre (stp x).2 ∧ μ (stp x).2 < μ x)) : LoopOK C D.spec body :=
  loopF_ok hstep stp μ (out1 id) hD (fun x _ hn G hG => by
    have h1 := (he x).resolve_left hn
    have e : stp x = (.exit id, (stp x).2) := Prod.ext h1 rfl
    rw [e]
    exact hG) h
theorem loopF2_ok {T : ShT D.ts × ShB D.bs → Tree (Ex × Option (ShT D.ts × ShB D.bs))} (hstep : ∀ x, roundOf C D body x = T x) {id : Nat} (stp : ShT D.ts × ShB D.bs → Ex × (ShT D.ts × ShB D.bs)) (μ : ShT D.ts × ShB D.bs → Nat) (hD : ∀ x, D.out x = out2 id (runF stp (μ x + 1) x))
    (he : ∀ x, (stp x).1 = .normal ∨ (stp x).1 = .exit id ∨ (stp x).1 = .ret) (h : ∀ x, D.pre x → ((T x).holds fun p => p = ((stp x).1, some (stp x).2)) ∧ ((stp x).1 = .normal → D.pre (stp x).2 ∧ μ (stp x).2 < μ x)) : LoopOK C D.spec body :=
  loopF_ok hstep stp μ (out2 id) hD (fun x _ hn G hG => by
    rcases (he x).resolve_left hn with h1 | h1
    · have e : stp x = (.exit id, (stp x).2) := Prod.ext h1 rfl
      rw [e] at hG ⊢
      exact hG.2 rfl
    · have e : stp x = (.ret, (stp x).2) := Prod.ext h1 rfl
      rw [e] at hG ⊢
      exact hG.1 rfl) h
end
end Go.Ev
/- Letters of a text, and its bytes. -/
set_option linter.unusedVariables false
set_option linter.unusedSimpArgs false
namespace Go.Ev
def byteAt (y : List UInt8) (i : Nat) : Nat := (y.getD i 0).toNat
theorem get_byte (y : List UInt8) (i : Nat) : ((ByteArray.mk ⟨y⟩).get! i).toNat = byteAt y i := by
  show ((⟨y⟩ : Array UInt8)[i]!).toNat = _
  unfold byteAt
  rw [Array.getElem!_eq_getD, List.getD_eq_getElem?_getD]
  simp [Array.getD_eq_getD_getElem?]
  rfl
theorem byteAt_lt (y : List UInt8) (i : Nat) : byteAt y i < 256 := UInt8.toNat_lt _
theorem dec_eq (y : List UInt8) (i : Nat) : decL y i =
    (let cont (k : Nat) : Bool := i + k < y.length && byteAt y (i + k) / 64 == 2
    let b0 := byteAt y (i + 0)
    if b0 < 0x80 then (b0, 1)
    else if b0 / 32 == 6 && cont 1 then
      let c := (b0 % 32) * 64 + byteAt y (i + 1) % 64
      if c ≥ 0x80 then (c, 2) else (Utf8.runeError, 1)
    else if b0 / 16 == 14 && cont 1 && cont 2 then
      let c := (b0 % 16) * 4096 + (byteAt y (i + 1) % 64) * 64 + byteAt y (i + 2) % 64
      if c ≥ 0x800 && Utf8.valid c then (c, 3) else (Utf8.runeError, 1)
    else if b0 / 8 == 30 && cont 1 && cont 2 && cont 3 then
      let c := (b0 % 8) * 262144 + (byteAt y (i + 1) % 64) * 4096 + (byteAt y (i + 2) % 64) * 64 + byteAt y (i + 3) % 64
      if c ≥ 0x10000 && Utf8.valid c then (c, 4) else (Utf8.runeError, 1)
    else (Utf8.runeError, 1)) := by
  unfold decL Utf8.decode
  simp only [get_byte]
  rfl
/-- A byte of one letter. -/
theorem decL_low {y : List UInt8} {i : Nat} (h : byteAt y i < 128) : decL y i = (byteAt y i, 1) := by
  rw [dec_eq]
  simp only [Nat.add_zero]
  rw [if_pos h]
/-- A byte that is no letter alone: the letter is a great one, and what belongs to it is great, too. -/
theorem decL_high {y : List UInt8} {i : Nat} (h : ¬ byteAt y i < 128) : 128 ≤ (decL y i).1 ∧ ∀ j, i ≤ j → j < i + (decL y i).2 → 128 ≤ byteAt y j ∧ (i < j → j < y.length) := by
  have h0 := byteAt_lt y i
  rw [dec_eq]
  simp only [Nat.add_zero]
  rw [if_neg h]
  unfold Utf8.runeError
  have one : ∀ (P : Nat → Prop), (P i) → ∀ j, i ≤ j → j < i + 1 → P j := fun P hp j h1 h2 => by
    have : j = i := by omega
    rw [this]; exact hp
  have hi : 128 ≤ byteAt y i ∧ (i < i → i < y.length) := ⟨by omega, by omega⟩
  split
  · rename_i hc
    simp only [Bool.and_eq_true, beq_iff_eq, decide_eq_true_eq] at hc
    split
    · refine ⟨by simp only []; omega, fun j h1 h2 => ?_⟩
      simp only [] at h2
      have : j = i ∨ j = i + 1 := by omega
      rcases this with rfl | rfl
      · exact hi
      · exact ⟨by omega, fun _ => by omega⟩
    · exact ⟨by decide, one _ hi⟩
  split
  · rename_i hc
    simp only [Bool.and_eq_true, beq_iff_eq, decide_eq_true_eq] at hc
    split
    · rename_i hd
      simp only [Bool.and_eq_true, decide_eq_true_eq] at hd
      refine ⟨by simp only []; omega, fun j h1 h2 => ?_⟩
      simp only [] at h2
      have : j = i ∨ j = i + 1 ∨ j = i + 2 := by omega
      rcases this with rfl | rfl | rfl
      · exact hi
      · exact ⟨by omega, fun _ => by omega⟩
      · exact ⟨by omega, fun _ => by omega⟩
    · exact ⟨by decide, one _ hi⟩
  split
  · rename_i hc
    simp only [Bool.and_eq_true, beq_iff_eq, decide_eq_true_eq] at hc
    split
    · rename_i hd
      simp only [Bool.and_eq_true, decide_eq_true_eq] at hd
      refine ⟨by simp only []; omega, fun j h1 h2 => ?_⟩
      simp only [] at h2
      have : j = i ∨ j = i + 1 ∨ j = i + 2 ∨ j = i + 3 := by omega
      rcases this with rfl | rfl | rfl | rfl
      · exact hi
      · exact ⟨by omega, fun _ => by omega⟩
      · exact ⟨by omega, fun _ => by omega⟩
      · exact ⟨by omega, fun _ => by omega⟩
    · exact ⟨by decide, one _ hi⟩
  · exact ⟨by decide, one _ hi⟩
theorem drop_byte {y : List UInt8} {i : Nat} (h : i < y.length) : y.drop i = y.getD i 0 :: y.drop (i + 1) := by
  rw [List.drop_eq_getElem_cons h]
  simp [List.getD, h]
end Go.Ev
/- Commands as texts, in plain Lean. -/
set_option linter.unusedVariables false
set_option linter.unusedSimpArgs false
namespace Go.Ev
/-- Sets of nodes out of texts. -/
def npGo : List UInt8 → Int → Int → Option Int
  | [], s, _ => some s
  | b :: l, s, last => bif (bif decide ((b.toNat : Int) ≤ last) then true else decide ((b.toNat : Int) > 112)) then none else npGo l (withF s ((b.toNat : Int) - 97)) (b.toNat : Int)
def nparseF (s : List UInt8) : Int × Int := bif s == [46] then (0, 0) else match npGo s 0 96 with
  | none => (0, 3)
  | some v => bif v == 0 then (0, 3) else (v, 0)
/-- A number out of digits. -/
def numGo (top : Int) : List UInt8 → Int → Option Int
  | [], n => some n
  | b :: l, n => bif (bif decide ((b.toNat : Int) < 48) then true else bif decide ((b.toNat : Int) > 57) then true else decide (n > top)) then none else numGo top l (n * 10 + ((b.toNat : Int) - 48))
/-- A text's words. -/
def wordsGo : List UInt8 → List UInt8 → List (List UInt8)
  | [], cur => [cur]
  | b :: l, cur => bif b == 32 then cur :: wordsGo l [] else wordsGo l (cur ++ [b])
def wordsF (s : List UInt8) : List (List UInt8) := wordsGo s []
def lowestF (s : Int) : Int := match elemsF s 16 with
  | [] => -1
  | j :: _ => j
/-! What is printed is parsed. -/
theorem words_end : ∀ (a cur : List UInt8), (∀ b ∈ a, b ≠ 32) → wordsGo a cur = [cur ++ a]
  | [], cur, _ => by simp [wordsGo]
  | b :: a, cur, h => by
    have hb : (b == 32) = false := by simpa using h b (by simp)
    rw [wordsGo, hb]
    show wordsGo a (cur ++ [b]) = _
    rw [words_end a (cur ++ [b]) (fun x hx => h x (by simp [hx])), List.append_assoc]
    rfl
theorem words_cons : ∀ (a cur l : List UInt8), (∀ b ∈ a, b ≠ 32) → wordsGo (a ++ 32 :: l) cur = (cur ++ a) :: wordsGo l []
  | [], cur, l, _ => by simp [wordsGo]
  | b :: a, cur, l, h => by
    have hb : (b == 32) = false := by simpa using h b (by simp)
    rw [List.cons_append, wordsGo, hb]
    show wordsGo (a ++ 32 :: l) (cur ++ [b]) = _
    rw [words_cons a (cur ++ [b]) l (fun x hx => h x (by simp [hx])), List.append_assoc]
    rfl
theorem node_cases {p : Int → Prop} {n : Int} (h0 : 0 ≤ n) (h1 : n < 16) (h : p 0 ∧ p 1 ∧ p 2 ∧ p 3 ∧ p 4 ∧ p 5 ∧ p 6 ∧ p 7 ∧ p 8 ∧ p 9 ∧ p 10 ∧ p 11 ∧ p 12 ∧ p 13 ∧ p 14 ∧ p 15) : p n := by
  obtain ⟨a0, a1, a2, a3, a4, a5, a6, a7, a8, a9, a10, a11, a12, a13, a14, a15⟩ := h
  have : n = 0 ∨ n = 1 ∨ n = 2 ∨ n = 3 ∨ n = 4 ∨ n = 5 ∨ n = 6 ∨ n = 7 ∨ n = 8 ∨ n = 9 ∨ n = 10 ∨ n = 11 ∨ n = 12 ∨ n = 13 ∨ n = 14 ∨ n = 15 := by omega
  rcases this with rfl | rfl | rfl | rfl | rfl | rfl | rfl | rfl | rfl | rfl | rfl | rfl | rfl | rfl | rfl | rfl <;> assumption
theorem one_text {n : Int} (h0 : 0 ≤ n) (h1 : n < 16) : textN (withF 0 n) = [letF n] ∧ nparseF [letF n] = (withF 0 n, 0) ∧ lowestF (withF 0 n) = n ∧ letF n ≠ 32 ∧ elemsF (withF 0 n) 16 = [n] :=
  node_cases (p := fun n => textN (withF 0 n) = [letF n] ∧ nparseF [letF n] = (withF 0 n, 0) ∧ lowestF (withF 0 n) = n ∧ letF n ≠ 32 ∧ elemsF (withF 0 n) 16 = [n]) h0 h1 (by refine ⟨?_, ?_, ?_, ?_, ?_, ?_, ?_, ?_, ?_, ?_, ?_, ?_, ?_, ?_, ?_, ?_⟩ <;> decide +kernel)
theorem num_more {top : Int} : ∀ (l : List UInt8) (n : Int) (b : UInt8), numGo top (l ++ [b]) n = match numGo top l n with
    | none => none
    | some m => bif (bif decide ((b.toNat : Int) < 48) then true else bif decide ((b.toNat : Int) > 57) then true else decide (m > top)) then none else some (m * 10 + ((b.toNat : Int) - 48))
  | [], n, b => by simp only [List.nil_append, numGo]
  | c :: l, n, b => by
    rw [List.cons_append, numGo, numGo]
    cases (bif decide ((c.toNat : Int) < 48) then true else bif decide ((c.toNat : Int) > 57) then true else decide (n > top)) with
    | true => rfl
    | false => exact num_more l _ b
theorem dig_toNat {d : Nat} (h : d < 10) : (UInt8.ofNat (48 + d)).toNat = 48 + d := by
  rw [UInt8.toNat_ofNat']; omega
theorem num_digits {top : Int} : ∀ (f n : Nat), n < 10 ^ f → 0 < f → ((n / 10 : Nat) : Int) ≤ top → numGo top (digN f n) 0 = some (n : Int)
  | 0, _, _, h, _ => absurd h (by omega)
  | f + 1, n, h, _, ht => by
    unfold digN
    by_cases h10 : n < 10
    · rw [show Nat.blt n 10 = true by rw [Nat.blt_eq]; exact h10]
      simp only [cond_true, numGo]
      rw [dig_toNat h10]
      have h0 : 0 ≤ top := by omega
      rw [decide_eq_false (by omega), decide_eq_false (by omega), decide_eq_false (by omega)]
      simp only [cond_false]
      congr 1
      omega
    · rw [show Nat.blt n 10 = false by
        cases hb : Nat.blt n 10 with
        | false => rfl
        | true => exact absurd (by rw [Nat.blt_eq] at hb; exact hb) h10]
      have hf : 0 < f := by
        rcases Nat.eq_zero_or_pos f with h0 | h0
        · subst h0; omega
        · exact h0
      have hd : n / 10 < 10 ^ f := by rw [Nat.pow_succ] at h; omega
      simp only [cond_false]
      rw [num_more, num_digits f (n / 10) hd hf (by omega)]
      simp only
      rw [dig_toNat (Nat.mod_lt _ (by omega))]
      have := Nat.mod_lt n (show 0 < 10 by omega)
      rw [decide_eq_false (by omega), decide_eq_false (by omega), decide_eq_false (by omega)]
      simp only [cond_false]
      congr 1
      omega
theorem digN_no : ∀ (f n : Nat), ∀ b ∈ digN f n, 48 ≤ b.toNat ∧ b.toNat ≤ 57
  | 0, _, b, h => by cases h
  | f + 1, n, b, h => by
    unfold digN at h
    cases hb : Nat.blt n 10 with
    | true =>
      rw [hb] at h
      have h10 : n < 10 := by rw [Nat.blt_eq] at hb; exact hb
      simp only [cond_true, List.mem_singleton] at h
      rw [h, dig_toNat h10]; omega
    | false =>
      rw [hb] at h
      simp only [cond_false, List.mem_append, List.mem_singleton] at h
      rcases h with h | h
      · exact digN_no f _ b h
      · have := Nat.mod_lt n (show 0 < 10 by omega)
        rw [h, dig_toNat this]; omega
theorem digN_ne : ∀ (f n : Nat), 0 < f → digN f n ≠ []
  | 0, _, h => absurd h (by omega)
  | f + 1, n, _ => by
    unfold digN
    cases Nat.blt n 10 <;> simp
end Go.Ev
/- The least node of a set; sets of nodes out of texts, round by round. -/
set_option linter.unusedVariables false
set_option linter.unusedSimpArgs false
namespace Go.Ev
abbrev NpS := (Int × Int × Int × Int × Unit) × (List UInt8 × Nat) × Unit
def npStp (x : NpS) : Ex × NpS :=
  bif Nat.blt x.2.1.2 x.2.1.1.length then
    bif (bif decide (((decL x.2.1.1 x.2.1.2).1 : Int) ≤ x.1.2.2.2.1) then true else decide (((decL x.2.1.1 x.2.1.2).1 : Int) > 112)) then (.ret, ((0, 3, x.1.2.2.1, x.1.2.2.2.1, ()), (x.2.1.1, decN x.2.1.1 x.2.1.2), ()))
    else (.normal, ((x.1.1, x.1.2.1, withF x.1.2.2.1 (((decL x.2.1.1 x.2.1.2).1 : Int) - 97), ((decL x.2.1.1 x.2.1.2).1 : Int), ()), (x.2.1.1, decN x.2.1.1 x.2.1.2), ()))
  else (.exit 0, (x.1, (x.2.1.1, decN x.2.1.1 x.2.1.2), ()))
def npMu (x : NpS) : Nat := x.2.1.1.length - x.2.1.2
theorem blt_iff {a b : Nat} : Nat.blt a b = true ↔ a < b := by rw [Nat.blt_eq]
theorem decN_go {y : List UInt8} {pos : Nat} (h : pos < y.length) : decN y pos = pos + (decL y pos).2 := by unfold decN; rw [blt_iff.2 h]; rfl
theorem decN_low {y : List UInt8} {pos : Nat} (h : pos < y.length) (hb : byteAt y pos < 128) : decN y pos = pos + 1 := by rw [decN_go h, decL_low hb]
theorem decN_lt {y : List UInt8} {pos : Nat} (h : Nat.blt pos y.length = true) : y.length - decN y pos < y.length - pos := by
  have h' := blt_iff.1 h
  have := decL_pos y pos
  rw [decN_go h']
  omega
theorem npStp_ends (x : NpS) : (npStp x).1 = .normal ∨ (npStp x).1 = .exit 0 ∨ (npStp x).1 = .ret := by
  unfold npStp
  cases Nat.blt x.2.1.2 x.2.1.1.length with
  | false => exact .inr (.inl rfl)
  | true => cases (bif decide (((decL x.2.1.1 x.2.1.2).1 : Int) ≤ x.1.2.2.2.1) then true else decide (((decL x.2.1.1 x.2.1.2).1 : Int) > 112)) with
    | true => exact .inr (.inr rfl)
    | false => exact .inl rfl
theorem np_mu {x : NpS} (h : (npStp x).1 = .normal) : npMu (npStp x).2 < npMu x := by
  unfold npStp at h ⊢
  cases hb : Nat.blt x.2.1.2 x.2.1.1.length with
  | false => rw [hb] at h; cases h
  | true =>
    rw [hb] at h
    cases hc : (bif decide (((decL x.2.1.1 x.2.1.2).1 : Int) ≤ x.1.2.2.2.1) then true else decide (((decL x.2.1.1 x.2.1.2).1 : Int) > 112)) with
    | true => rw [hc] at h; cases h
    | false => exact decN_lt hb
/-- What comes of it. -/
def npEnd (o : Option Int) (p : Ex × NpS) : Prop := match o with
  | none => p.1 = .ret ∧ p.2.1.1 = 0 ∧ p.2.1.2.1 = 3
  | some v => p.1 = .exit 0 ∧ p.2.1.2.2.1 = v
theorem np_run {y : List UInt8} {o : Option Int} : ∀ (n : Nat) (x : NpS), (x.2.1.1 = y ∧ npGo (y.drop x.2.1.2) x.1.2.2.1 x.1.2.2.2.1 = o) → npMu x < n → npEnd o (runF npStp n x) :=
  runF_inv fun x hx => by
    refine ⟨fun hn => ⟨?_, np_mu hn⟩, fun hn => ?_⟩
    · obtain ⟨⟨a, b, s, l, ⟨⟩⟩, ⟨y', pos⟩, ⟨⟩⟩ := x
      obtain ⟨h1, h2⟩ := hx
      simp only at h1 h2
      subst h1
      unfold npStp at hn ⊢
      simp only at hn ⊢
      cases hb : Nat.blt pos y'.length with
      | false => rw [hb] at hn; cases hn
      | true =>
        rw [hb] at hn
        have hlt := blt_iff.1 hb
        simp only [cond_true] at hn ⊢
        cases hc : (bif decide (((decL y' pos).1 : Int) ≤ l) then true else decide (((decL y' pos).1 : Int) > 112)) with
        | true => rw [hc] at hn; cases hn
        | false =>
          simp only [cond_false]
          refine ⟨trivial, ?_⟩
          by_cases hlow : byteAt y' pos < 128
          · rw [drop_byte hlt, npGo] at h2
            have e : ((y'.getD pos 0).toNat : Int) = ((decL y' pos).1 : Int) := by rw [decL_low hlow]; rfl
            rw [e, hc] at h2
            rw [decN_low hlt hlow]
            exact h2
          · have h3 := (decL_high hlow).1
            rw [decide_eq_true (show ((decL y' pos).1 : Int) > 112 by omega)] at hc
            cases hd : decide (((decL y' pos).1 : Int) ≤ l) <;> rw [hd] at hc <;> cases hc
    · obtain ⟨⟨a, b, s, l, ⟨⟩⟩, ⟨y', pos⟩, ⟨⟩⟩ := x
      obtain ⟨h1, h2⟩ := hx
      simp only at h1 h2
      subst h1
      unfold npStp at hn ⊢
      simp only at hn ⊢
      cases hb : Nat.blt pos y'.length with
      | false =>
        have hlt : ¬ pos < y'.length := fun h => by rw [blt_iff.2 h] at hb; cases hb
        rw [List.drop_eq_nil_of_le (by omega), npGo] at h2
        subst h2
        exact ⟨rfl, rfl⟩
      | true =>
        rw [hb] at hn
        have hlt := blt_iff.1 hb
        simp only [cond_true] at hn ⊢
        cases hc : (bif decide (((decL y' pos).1 : Int) ≤ l) then true else decide (((decL y' pos).1 : Int) > 112)) with
        | false => rw [hc] at hn; exact absurd rfl hn
        | true =>
          simp only [cond_true]
          have h3 : o = none := by
            rw [drop_byte hlt, npGo] at h2
            by_cases hlow : byteAt y' pos < 128
            · have e : ((y'.getD pos 0).toNat : Int) = ((decL y' pos).1 : Int) := by rw [decL_low hlow]; rfl
              rw [e, hc] at h2
              exact h2.symm
            · have hg : decide (((y'.getD pos 0).toNat : Int) > 112) = true := decide_eq_true (by
                have : byteAt y' pos = (y'.getD pos 0).toNat := rfl
                omega)
              rw [hg] at h2
              cases hd : decide (((y'.getD pos 0).toNat : Int) ≤ l) <;> rw [hd] at h2 <;> exact h2.symm
          subst h3
          exact ⟨rfl, rfl, rfl⟩
theorem np_all (y : List UInt8) (a b : Int) : npEnd (npGo y 0 96) (runF npStp (npMu ((a, b, 0, 96, ()), (y, 0), ()) + 1) ((a, b, 0, 96, ()), (y, 0), ())) :=
  np_run _ _ ⟨rfl, rfl⟩ (by omega)
/-! The least node -/
theorem tz_at {n : Nat} (hn0 : n ≠ 0) (hn : n < 18446744073709551616) {a : Nat} (hlow : n &&& (18446744073709551616 - n) = a) :
    Int.fdiv (IntKind.wrap IntKind.u64 (bitsOp BinOp.and IntKind.u64 (n : Int) (IntKind.wrap IntKind.u64 ((0 : Int) - (n : Int))) * 285870213051353865)) 288230376151711744 = ((a * 285870213051353865 % 18446744073709551616 / 288230376151711744 : Nat) : Int) := by
  have ha : a ≤ n := by rw [← hlow]; exact Nat.and_le_left
  have e1 : IntKind.wrap IntKind.u64 ((0 : Int) - (n : Int)) = ((18446744073709551616 - n : Nat) : Int) := by
    rw [wrap_u64]
    omega
  have e2 : bitsOp BinOp.and IntKind.u64 (n : Int) ((18446744073709551616 - n : Nat) : Int) = (a : Int) := by
    show IntKind.u64.wrap ((BitVec.ofInt 64 (n : Int) &&& BitVec.ofInt 64 ((18446744073709551616 - n : Nat) : Int)).toNat : Int) = _
    rw [BitVec.toNat_and, BitVec.toNat_ofInt, BitVec.toNat_ofInt]
    have a1 : ((n : Int) % ((2 ^ 64 : Nat) : Int)).toNat = n := by omega
    have a2 : (((18446744073709551616 - n : Nat) : Int) % ((2 ^ 64 : Nat) : Int)).toNat = 18446744073709551616 - n := by omega
    rw [a1, a2, hlow, wrap_u64]
    omega
  rw [e1, e2, wrap_u64, Int.fdiv_eq_ediv_of_nonneg _ (by decide), Int.natCast_ediv, Int.natCast_emod, Int.natCast_mul]
  rfl
theorem tab_at (i : Nat) : List.getD lowTab (Int.toNat (i : Int)) 0 = ((Lib.deBruijn64tab.getD i 0 : Nat) : Int) := by
  rw [Int.toNat_natCast]
  unfold lowTab
  generalize Lib.deBruijn64tab = l
  simp only [List.getD_eq_getElem?_getD, List.getElem?_map]
  cases l[i]? <;> rfl
theorem tz_key {x : Int} (h0 : 0 < x) (h1 : x ≤ 18446744073709551615) :
    ((0 : Int) ≤ Int.fdiv (IntKind.wrap IntKind.u64 (bitsOp BinOp.and IntKind.u64 x (IntKind.wrap IntKind.u64 ((0 : Int) - x)) * 285870213051353865)) 288230376151711744 ∧
      Int.fdiv (IntKind.wrap IntKind.u64 (bitsOp BinOp.and IntKind.u64 x (IntKind.wrap IntKind.u64 ((0 : Int) - x)) * 285870213051353865)) 288230376151711744 < 64) ∧
    IntKind.wrap IntKind.i64 (List.getD lowTab (Int.toNat (Int.fdiv (IntKind.wrap IntKind.u64 (bitsOp BinOp.and IntKind.u64 x (IntKind.wrap IntKind.u64 ((0 : Int) - x)) * 285870213051353865)) 288230376151711744)) 0) = (Lib.ctz 64 x.toNat : Int) := by
  obtain ⟨n, rfl⟩ := Int.eq_ofNat_of_zero_le (Int.le_of_lt h0)
  have hn0 : n ≠ 0 := by omega
  have hn : n < 18446744073709551616 := by omega
  obtain ⟨hlow, hk⟩ := Lib.lowest_bit 64 n hn0 hn
  obtain ⟨hi, htab⟩ := Lib.deBruijn64_at _ hk
  rw [tz_at hn0 hn hlow, tab_at, htab, Int.toNat_natCast]
  generalize 2 ^ Lib.ctz 64 n * 285870213051353865 % 18446744073709551616 / 288230376151711744 = i at hi ⊢
  generalize Lib.ctz 64 n = k at hk ⊢
  exact ⟨⟨by omega, by omega⟩, i64_id (by omega) (by omega)⟩
theorem elems_head {s : Int} {k : Nat} (hk : k < 16) (h : hasF s k = true) (hb : ∀ j : Nat, j < k → hasF s j = false) : ∀ n : Nat, n ≤ 16 → 16 - n ≤ k → ∃ l, elemsF s n = (k : Int) :: l
  | 0, _, h1 => by omega
  | n + 1, h0, h1 => by
    unfold elemsF
    by_cases e : 16 - (n + 1) = k
    · have e2 : (16 : Int) - ((n + 1 : Nat) : Int) = (k : Int) := by omega
      rw [e2, h]
      exact ⟨_, rfl⟩
    · obtain ⟨l, hl⟩ := elems_head hk h hb n (by omega) (by omega)
      have e2 : (16 : Int) - ((n + 1 : Nat) : Int) = ((16 - (n + 1) : Nat) : Int) := by omega
      rw [e2, hb _ (by omega), hl]
      exact ⟨_, rfl⟩
theorem has_bit {s : Int} {j : Nat} (hj : j < 16) : hasF s j = (((s % 65536).toNat / 2 ^ j) % 2 == 1) := by
  unfold hasF
  rw [right_nat hj]
  simp only [cond_true]
  rw [bit_at hj]
  have h0 := Int.emod_nonneg s (show (65536 : Int) ≠ 0 by decide)
  have h1 : (s / ((2 ^ j : Nat) : Int)) % 2 = (((s % 65536).toNat / 2 ^ j % 2 : Nat) : Int) := by
    have e : ((s % 65536).toNat : Int) = s % 65536 := Int.toNat_of_nonneg h0
    have hk : j = 0 ∨ j = 1 ∨ j = 2 ∨ j = 3 ∨ j = 4 ∨ j = 5 ∨ j = 6 ∨ j = 7 ∨ j = 8 ∨ j = 9 ∨ j = 10 ∨ j = 11 ∨ j = 12 ∨ j = 13 ∨ j = 14 ∨ j = 15 := by omega
    rcases hk with rfl | rfl | rfl | rfl | rfl | rfl | rfl | rfl | rfl | rfl | rfl | rfl | rfl | rfl | rfl | rfl <;> (simp only [Nat.reducePow]; omega)
  rw [h1, Bool.eq_iff_iff]
  simp only [beq_iff_eq]
  omega
theorem low_none {x : Int} (h : (bitsOp BinOp.and IntKind.i64 x (65535 : Int) == (0 : Int)) = true) : (-1 : Int) = lowestF x := by
  rw [mask_empty] at h
  unfold lowestF
  rw [List.isEmpty_iff.1 h]
theorem low_some {x : Int} (h : (bitsOp BinOp.and IntKind.i64 x (65535 : Int) == (0 : Int)) = false) :
    0 < IntKind.wrap IntKind.u64 (bitsOp BinOp.and IntKind.i64 x (65535 : Int)) ∧ (Lib.ctz 64 (Int.toNat (IntKind.wrap IntKind.u64 (bitsOp BinOp.and IntKind.i64 x (65535 : Int)))) : Int) = lowestF x := by
  have hm : bitsOp BinOp.and IntKind.i64 x (65535 : Int) = x % 65536 := and_low (s := x) 16 (by omega)
  rw [hm] at h ⊢
  have h0 := Int.emod_nonneg x (show (65536 : Int) ≠ 0 by decide)
  have h1 := Int.emod_lt_of_pos x (show (0 : Int) < 65536 by decide)
  have hne : x % 65536 ≠ 0 := by simpa using h
  have e : IntKind.wrap IntKind.u64 (x % 65536) = x % 65536 := u64_id h0 (by omega)
  rw [e]
  refine ⟨by omega, ?_⟩
  obtain ⟨n, hn⟩ : ∃ n, (x % 65536).toNat = n := ⟨_, rfl⟩
  have hn0 : n ≠ 0 := by omega
  have hn1 : n < 65536 := by omega
  rw [hn]
  have hc : Lib.ctz 64 n = Lib.ctzFrom 64 n := by simp [Lib.ctz, hn0]
  obtain ⟨m, hm2, hk⟩ := Lib.ctzFrom_spec 64 n (by omega) (by omega)
  rw [hc]
  generalize Lib.ctzFrom 64 n = k at hm2 hk ⊢
  have hk16 : k < 16 := by
    by_cases hkk : k < 16
    · exact hkk
    · exfalso
      have : 2 ^ 16 ≤ 2 ^ k := Nat.pow_le_pow_right (by omega) (by omega)
      have h3 : 2 ^ k ≤ 2 ^ k * (2 * m + 1) := Nat.le_mul_of_pos_right _ (by omega)
      omega
  have hb : hasF x k = true := by
    rw [has_bit hk16, hn, hm2, Nat.mul_div_cancel_left _ (Nat.pow_pos (by omega))]
    simp
  have hnb : ∀ j : Nat, j < k → hasF x j = false := by
    intro j hj
    rw [has_bit (by omega), hn, hm2]
    have e2 : 2 ^ k = 2 ^ j * (2 * 2 ^ (k - j - 1)) := by
      rw [← Nat.pow_succ', ← Nat.pow_add]
      congr 1
      omega
    rw [e2, Nat.mul_assoc, Nat.mul_div_cancel_left _ (Nat.pow_pos (by omega)), Nat.mul_assoc]
    simp
  obtain ⟨l, hl⟩ := elems_head hk16 hb hnb 16 (by omega) (by omega)
  unfold lowestF
  rw [hl]
end Go.Ev
/- Sets of nodes out of texts; the least node of a set. -/
set_option linter.unusedVariables false
set_option linter.unusedSimpArgs false
namespace Go.Ev.D
open Go.Proofs
def tz64C : Ctr := { args := [.int .u64], res := [.int .i64], pre := some (fun (x : Int) => 0 < x), fn := fun (x : Int) => (Lib.ctz 64 x.toNat : Int) }
theorem tz64_tree : (fun x : Int => evFn (mkC tys [] []) (fnOf Tryd.prog 165) (resL tz64C.args x) tz64C.res) =
  (fun x =>
    Tree.br (x == (0 : Int)) (Tree.leaf (64 : Int))
      (Tree.need
        ((0 : Int) ≤ Int.fdiv (IntKind.wrap IntKind.u64 (bitsOp BinOp.and IntKind.u64 x (IntKind.wrap IntKind.u64 ((0 : Int) - x)) * (285870213051353865 : Int))) (288230376151711744 : Int) ∧
          Int.fdiv (IntKind.wrap IntKind.u64 (bitsOp BinOp.and IntKind.u64 x (IntKind.wrap IntKind.u64 ((0 : Int) - x)) * (285870213051353865 : Int))) (288230376151711744 : Int) < (64 : Int))
        (Tree.leaf
          (IntKind.wrap IntKind.i64
            (List.getD lowTab
              (Int.toNat (Int.fdiv (IntKind.wrap IntKind.u64 (bitsOp BinOp.and IntKind.u64 x (IntKind.wrap IntKind.u64 ((0 : Int) - x)) * (285870213051353865 : Int))) (288230376151711744 : Int)))
              (0 : Int)))))) := by kernel_rfl
theorem tz64_ok : CtrOK Tryd.prog 165 tz64C :=
  fun_ok (G := []) (Λ := []) tysOK ctrs_nil mixed (by kernel_rfl) (by kernel_rfl) (by kernel_rfl) (by kernel_rfl) lp_nil fun (x : Int) hw hp => by
    have hp' : 0 < (x : Int) := hp (fun (x : Int) => 0 < x) rfl
    have hu : IntKind.u64.has x := hw
    rw [has_u64] at hu
    rw [congrFun tz64_tree x]
    simp only [Tree.holds]
    have key := tz_key hp' hu.2
    refine ⟨fun h => ?_, fun _ => ⟨key.1, key.2⟩⟩
    have : x = 0 := by simpa using h
    omega
def tzG : List (Nat × Ctr) := [(165, tz64C)]
theorem tzG_ok : CtrsOK Tryd.prog (fun f => lk f tzG) := (ctrs_cons tz64_ok ctrs_nil)
def tzC : Ctr := { args := [.int .u64], res := [.int .i64], pre := some (fun (x : Int) => 0 < x), fn := fun (x : Int) => (Lib.ctz 64 x.toNat : Int) }
theorem tz_tree : (fun x : Int => evFn (mkC tys tzG []) (fnOf Tryd.prog 143) (resL tzC.args x) tzC.res) =
  (fun x => Tree.br false Tree.stuck (Tree.need ((0 : Int) < x) (Tree.leaf (↑(Lib.ctz (64 : Nat) (Int.toNat x)) : Int)))) := by kernel_rfl
theorem tz_ok : CtrOK Tryd.prog 143 tzC :=
  fun_ok (G := tzG) (Λ := []) tysOK tzG_ok mixed (by kernel_rfl) (by kernel_rfl) (by kernel_rfl) (by kernel_rfl) lp_nil fun (x : Int) hw hp => by
    have hp' : 0 < (x : Int) := hp (fun (x : Int) => 0 < x) rfl
    rw [congrFun tz_tree x]
    simp only [Tree.holds]
    exact ⟨nofun, fun _ => ⟨hp', rfl⟩⟩
def lowestG : List (Nat × Ctr) := [(143, tzC)]
theorem lowestG_ok : CtrsOK Tryd.prog (fun f => lk f lowestG) := (ctrs_cons tz_ok ctrs_nil)
def lowestC : Ctr := { args := [.int .i64], res := [.int .i64], pre := none, fn := fun (x : Int) => lowestF x }
theorem lowest_tree : (fun x : Int => evFn (mkC tys lowestG []) (fnOf Tryd.prog 120) (resL lowestC.args x) lowestC.res) =
  (fun x =>
    Tree.br (bitsOp BinOp.and IntKind.i64 x (65535 : Int) == (0 : Int)) (Tree.leaf (-1 : Int))
      (Tree.need ((0 : Int) < IntKind.wrap IntKind.u64 (bitsOp BinOp.and IntKind.i64 x (65535 : Int)))
        (Tree.leaf (↑(Lib.ctz (64 : Nat) (Int.toNat (IntKind.wrap IntKind.u64 (bitsOp BinOp.and IntKind.i64 x (65535 : Int))))) : Int)))) := by kernel_rfl
theorem lowest_ok : CtrOK Tryd.prog 120 lowestC :=
  fun_ok (G := lowestG) (Λ := []) tysOK lowestG_ok mixed (by kernel_rfl) (by kernel_rfl) (by kernel_rfl) (by kernel_rfl) lp_nil fun (x : Int) hw hp => by
    rw [congrFun lowest_tree x]
    have e : lowestC.fn x = lowestF x := rfl
    rw [e]
    simp only [Tree.holds]
    exact ⟨fun h => low_none h, fun h => low_some h⟩
def nparseG : List (Nat × Ctr) := [(100, withC)]
theorem nparseG_ok : CtrsOK Tryd.prog (fun f => lk f nparseG) := (ctrs_cons with_ok ctrs_nil)
def npD : LoopD where
  prom := []
  ts := [(2, .val (.int .i64)), (3, .val (.int .i64)), (4, .val (.int .i64)), (5, .val (.int .i32)), (11, .ptr 11 .unit)]
  bs := [(11, .iter)]
  pre := fun (x : (Int × Int × Int × Int × Unit) × (List UInt8 × Nat) × Unit) => True
  out := fun (x : (Int × Int × Int × Int × Unit) × (List UInt8 × Nat) × Unit) => out2 0 (runF npStp (npMu x + 1) x)
theorem nparse_round : (fun x : (Int × Int × Int × Int × Unit) × (List UInt8 × Nat) × Unit => roundOf (mkC tys nparseG [(0, npD.spec)]) npD (loopB 0 (bodyOf (fnOf Tryd.prog 119))) x) =
  (fun x =>
    Tree.br (Nat.blt x.2.1.2 (List.length x.2.1.1))
      (Tree.need (Nat.blt x.2.1.2 (List.length x.2.1.1) = true)
        (Tree.br (bif decide ((↑(decL x.2.1.1 x.2.1.2).1 : Int) ≤ x.1.2.2.2.1) then true else decide ((↑(decL x.2.1.1 x.2.1.2).1 : Int) > (112 : Int)))
          (Tree.leaf (Ex.ret, some (((0 : Int), (3 : Int), x.1.2.2.1, x.1.2.2.2.1, ()), (x.2.1.1, decN x.2.1.1 x.2.1.2), ())))
          (Tree.leaf
            (Ex.normal,
              some
                ((x.1.1, x.1.2.1, withF x.1.2.2.1 (IntKind.wrap IntKind.i64 (IntKind.wrap IntKind.i32 ((↑(decL x.2.1.1 x.2.1.2).1 : Int) - (97 : Int)))), (↑(decL x.2.1.1 x.2.1.2).1 : Int), ()),
                  (x.2.1.1, decN x.2.1.1 x.2.1.2), ())))))
      (Tree.leaf (Ex.exit (0 : Nat), some ((x.1.1, x.1.2.1, x.1.2.2.1, x.1.2.2.2.1, ()), (x.2.1.1, decN x.2.1.1 x.2.1.2), ())))) := by kernel_rfl
theorem nparse_loop : LoopOK (mkC tys nparseG [(0, npD.spec)]) npD.spec (loopB 0 (bodyOf (fnOf Tryd.prog 119))) :=
  loopF2_ok (id := 0) (D := npD) (fun x => congrFun nparse_round x) npStp npMu (fun _ => rfl) npStp_ends fun (x : (Int × Int × Int × Int × Unit) × (List UInt8 × Nat) × Unit) _ => by
    obtain ⟨⟨a, b, s, l, ⟨⟩⟩, ⟨y, pos⟩, ⟨⟩⟩ := x
    have hr := decL_lt y pos
    have e : IntKind.wrap IntKind.i64 (IntKind.wrap IntKind.i32 (((decL y pos).1 : Int) - 97)) = ((decL y pos).1 : Int) - 97 := by
      rw [show IntKind.wrap IntKind.i32 (((decL y pos).1 : Int) - 97) = ((decL y pos).1 : Int) - 97 from i32_id (by omega) (by omega)]
      exact i64_id (by omega) (by omega)
    refine ⟨?_, fun hn => ⟨trivial, np_mu hn⟩⟩
    simp only [Tree.holds, npStp]
    rw [e]
    refine ⟨fun h => ⟨h, fun h2 => ?_, fun h2 => ?_⟩, fun h => ?_⟩
    · rw [h, h2]; rfl
    · rw [h, h2]; rfl
    · rw [h]; rfl
theorem nparse_tree : (fun x : List UInt8 => evFn (mkC tys nparseG [(0, npD.spec)]) (fnOf Tryd.prog 119) (resL [.str] x) [.int .i64, .int .i64]) =
  (fun x =>
    Tree.br (x == [(46 : UInt8)]) (Tree.leaf ((0 : Int), (0 : Int)))
      (Tree.need True
        (Tree.br
          (isRet
            (runF npStp (npMu (((0 : Int), (0 : Int), (0 : Int), (96 : Int), PUnit.unit), (x, (0 : Nat)), PUnit.unit) + (1 : Nat))
                (((0 : Int), (0 : Int), (0 : Int), (96 : Int), PUnit.unit), (x, (0 : Nat)), PUnit.unit)).1)
          (Tree.leaf
            ((runF npStp (npMu (((0 : Int), (0 : Int), (0 : Int), (96 : Int), PUnit.unit), (x, (0 : Nat)), PUnit.unit) + (1 : Nat))
                      (((0 : Int), (0 : Int), (0 : Int), (96 : Int), PUnit.unit), (x, (0 : Nat)), PUnit.unit)).2.1.1,
              (runF npStp (npMu (((0 : Int), (0 : Int), (0 : Int), (96 : Int), PUnit.unit), (x, (0 : Nat)), PUnit.unit) + (1 : Nat))
                        (((0 : Int), (0 : Int), (0 : Int), (96 : Int), PUnit.unit), (x, (0 : Nat)), PUnit.unit)).2.1.2.1))
          (Tree.br
            ((runF npStp (npMu (((0 : Int), (0 : Int), (0 : Int), (96 : Int), PUnit.unit), (x, (0 : Nat)), PUnit.unit) + (1 : Nat))
                          (((0 : Int), (0 : Int), (0 : Int), (96 : Int), PUnit.unit), (x, (0 : Nat)), PUnit.unit)).2.1.2.2.1 ==
              (0 : Int))
            (Tree.leaf ((0 : Int), (3 : Int)))
            (Tree.leaf
              ((runF npStp (npMu (((0 : Int), (0 : Int), (0 : Int), (96 : Int), PUnit.unit), (x, (0 : Nat)), PUnit.unit) + (1 : Nat))
                            (((0 : Int), (0 : Int), (0 : Int), (96 : Int), PUnit.unit), (x, (0 : Nat)), PUnit.unit)).2.1.2.2.1,
                (0 : Int))))))) := by kernel_rfl
def nparseC : Ctr := { args := [.str], res := [.int .i64, .int .i64], pre := none, fn := fun (x : List UInt8) => nparseF x }
theorem nparse_ok : CtrOK Tryd.prog 119 nparseC :=
  fun_ok (G := nparseG) (Λ := [(0, npD.spec)]) tysOK nparseG_ok mixed (by kernel_rfl) (by kernel_rfl) (by kernel_rfl) (by kernel_rfl) (lp_cons nparse_loop lp_nil) fun (x : List UInt8) hw hp => by
    show (evFn (mkC tys nparseG [(0, npD.spec)]) (fnOf Tryd.prog 119) (resL [.str] x) [.int .i64, .int .i64]).holds (fun y => y = nparseF x)
    rw [congrFun nparse_tree x]
    have key := np_all x 0 0
    generalize runF npStp (npMu (((0 : Int), (0 : Int), (0 : Int), (96 : Int), PUnit.unit), (x, (0 : Nat)), PUnit.unit) + (1 : Nat)) (((0 : Int), (0 : Int), (0 : Int), (96 : Int), PUnit.unit), (x, (0 : Nat)), PUnit.unit) = r at key ⊢
    simp only [Tree.holds]
    refine ⟨fun h => ?_, fun h => ⟨trivial, fun h2 => ?_, fun h2 => ⟨fun h3 => ?_, fun h3 => ?_⟩⟩⟩
    all_goals (unfold nparseF; rw [h])
    · rfl
    · cases hg : npGo x 0 96 with
      | none => rw [hg] at key; rw [key.2.1, key.2.2]; rfl
      | some v => rw [hg] at key; rw [key.1] at h2; cases h2
    · cases hg : npGo x 0 96 with
      | none => rw [hg] at key; rw [key.1] at h2; cases h2
      | some v => rw [hg] at key; rw [key.2] at h3; simp only [cond_false]; rw [h3]; rfl
    · cases hg : npGo x 0 96 with
      | none => rw [hg] at key; rw [key.1] at h2; cases h2
      | some v => rw [hg] at key; rw [key.2] at h3 ⊢; simp only [cond_false]; rw [h3]; rfl
def rnparseG : List (Nat × Ctr) := [(101, rwithC)]
theorem rnparseG_ok : CtrsOK Tryd.prog (fun f => lk f rnparseG) := (ctrs_cons rwith_ok ctrs_nil)
theorem rnparse_round : (fun x : (Int × Int × Int × Int × Unit) × (List UInt8 × Nat) × Unit => roundOf (mkC tys rnparseG [(0, npD.spec)]) npD (loopB 0 (bodyOf (fnOf Tryd.prog 122))) x) =
  (fun x =>
    Tree.br (Nat.blt x.2.1.2 (List.length x.2.1.1))
      (Tree.need (Nat.blt x.2.1.2 (List.length x.2.1.1) = true)
        (Tree.br (bif decide ((↑(decL x.2.1.1 x.2.1.2).1 : Int) ≤ x.1.2.2.2.1) then true else decide ((↑(decL x.2.1.1 x.2.1.2).1 : Int) > (112 : Int)))
          (Tree.leaf (Ex.ret, some (((0 : Int), (3 : Int), x.1.2.2.1, x.1.2.2.2.1, ()), (x.2.1.1, decN x.2.1.1 x.2.1.2), ())))
          (Tree.leaf
            (Ex.normal,
              some
                ((x.1.1, x.1.2.1, withF x.1.2.2.1 (IntKind.wrap IntKind.i64 (IntKind.wrap IntKind.i32 ((↑(decL x.2.1.1 x.2.1.2).1 : Int) - (97 : Int)))), (↑(decL x.2.1.1 x.2.1.2).1 : Int), ()),
                  (x.2.1.1, decN x.2.1.1 x.2.1.2), ())))))
      (Tree.leaf (Ex.exit (0 : Nat), some ((x.1.1, x.1.2.1, x.1.2.2.1, x.1.2.2.2.1, ()), (x.2.1.1, decN x.2.1.1 x.2.1.2), ())))) := by kernel_rfl
theorem rnparse_loop : LoopOK (mkC tys rnparseG [(0, npD.spec)]) npD.spec (loopB 0 (bodyOf (fnOf Tryd.prog 122))) :=
  loopF2_ok (id := 0) (D := npD) (fun x => congrFun rnparse_round x) npStp npMu (fun _ => rfl) npStp_ends fun (x : (Int × Int × Int × Int × Unit) × (List UInt8 × Nat) × Unit) _ => by
    obtain ⟨⟨a, b, s, l, ⟨⟩⟩, ⟨y, pos⟩, ⟨⟩⟩ := x
    have hr := decL_lt y pos
    have e : IntKind.wrap IntKind.i64 (IntKind.wrap IntKind.i32 (((decL y pos).1 : Int) - 97)) = ((decL y pos).1 : Int) - 97 := by
      rw [show IntKind.wrap IntKind.i32 (((decL y pos).1 : Int) - 97) = ((decL y pos).1 : Int) - 97 from i32_id (by omega) (by omega)]
      exact i64_id (by omega) (by omega)
    refine ⟨?_, fun hn => ⟨trivial, np_mu hn⟩⟩
    simp only [Tree.holds, npStp]
    rw [e]
    refine ⟨fun h => ⟨h, fun h2 => ?_, fun h2 => ?_⟩, fun h => ?_⟩
    · rw [h, h2]; rfl
    · rw [h, h2]; rfl
    · rw [h]; rfl
theorem rnparse_tree : (fun x : List UInt8 => evFn (mkC tys rnparseG [(0, npD.spec)]) (fnOf Tryd.prog 122) (resL [.str] x) [.int .i64, .int .i64]) =
  (fun x =>
    Tree.br (x == [(46 : UInt8)]) (Tree.leaf ((0 : Int), (0 : Int)))
      (Tree.need True
        (Tree.br
          (isRet
            (runF npStp (npMu (((0 : Int), (0 : Int), (0 : Int), (96 : Int), PUnit.unit), (x, (0 : Nat)), PUnit.unit) + (1 : Nat))
                (((0 : Int), (0 : Int), (0 : Int), (96 : Int), PUnit.unit), (x, (0 : Nat)), PUnit.unit)).1)
          (Tree.leaf
            ((runF npStp (npMu (((0 : Int), (0 : Int), (0 : Int), (96 : Int), PUnit.unit), (x, (0 : Nat)), PUnit.unit) + (1 : Nat))
                      (((0 : Int), (0 : Int), (0 : Int), (96 : Int), PUnit.unit), (x, (0 : Nat)), PUnit.unit)).2.1.1,
              (runF npStp (npMu (((0 : Int), (0 : Int), (0 : Int), (96 : Int), PUnit.unit), (x, (0 : Nat)), PUnit.unit) + (1 : Nat))
                        (((0 : Int), (0 : Int), (0 : Int), (96 : Int), PUnit.unit), (x, (0 : Nat)), PUnit.unit)).2.1.2.1))
          (Tree.br
            ((runF npStp (npMu (((0 : Int), (0 : Int), (0 : Int), (96 : Int), PUnit.unit), (x, (0 : Nat)), PUnit.unit) + (1 : Nat))
                          (((0 : Int), (0 : Int), (0 : Int), (96 : Int), PUnit.unit), (x, (0 : Nat)), PUnit.unit)).2.1.2.2.1 ==
              (0 : Int))
            (Tree.leaf ((0 : Int), (3 : Int)))
            (Tree.leaf
              ((runF npStp (npMu (((0 : Int), (0 : Int), (0 : Int), (96 : Int), PUnit.unit), (x, (0 : Nat)), PUnit.unit) + (1 : Nat))
                            (((0 : Int), (0 : Int), (0 : Int), (96 : Int), PUnit.unit), (x, (0 : Nat)), PUnit.unit)).2.1.2.2.1,
                (0 : Int))))))) := by kernel_rfl
theorem rnparse_ok : CtrOK Tryd.prog 122 nparseC :=
  fun_ok (G := rnparseG) (Λ := [(0, npD.spec)]) tysOK rnparseG_ok mixed (by kernel_rfl) (by kernel_rfl) (by kernel_rfl) (by kernel_rfl) (lp_cons rnparse_loop lp_nil) fun (x : List UInt8) hw hp => by
    show (evFn (mkC tys rnparseG [(0, npD.spec)]) (fnOf Tryd.prog 122) (resL [.str] x) [.int .i64, .int .i64]).holds (fun y => y = nparseF x)
    rw [congrFun rnparse_tree x]
    have key := np_all x 0 0
    generalize runF npStp (npMu (((0 : Int), (0 : Int), (0 : Int), (96 : Int), PUnit.unit), (x, (0 : Nat)), PUnit.unit) + (1 : Nat)) (((0 : Int), (0 : Int), (0 : Int), (96 : Int), PUnit.unit), (x, (0 : Nat)), PUnit.unit) = r at key ⊢
    simp only [Tree.holds]
    refine ⟨fun h => ?_, fun h => ⟨trivial, fun h2 => ?_, fun h2 => ⟨fun h3 => ?_, fun h3 => ?_⟩⟩⟩
    all_goals (unfold nparseF; rw [h])
    · rfl
    · cases hg : npGo x 0 96 with
      | none => rw [hg] at key; rw [key.2.1, key.2.2]; rfl
      | some v => rw [hg] at key; rw [key.1] at h2; cases h2
    · cases hg : npGo x 0 96 with
      | none => rw [hg] at key; rw [key.1] at h2; cases h2
      | some v => rw [hg] at key; rw [key.2] at h3; simp only [cond_false]; rw [h3]; rfl
    · cases hg : npGo x 0 96 with
      | none => rw [hg] at key; rw [key.1] at h2; cases h2
      | some v => rw [hg] at key; rw [key.2] at h3 ⊢; simp only [cond_false]; rw [h3]; rfl
def rcountC : Ctr := { args := [.int .i64], res := [.int .i64], pre := none, fn := fun (x : Int) => ((elemsF x 16).length : Int) }
def rcountG : List (Nat × Ctr) := [(105, rlistC)]
theorem rcount_tree : (fun x : Int => evFn (mkC tys rcountG []) (fnOf Tryd.prog 123) (resL rcountC.args x) rcountC.res) =
  (fun x => Tree.leaf (↑(List.length (elemsF x (16 : Nat))) : Int)) := by kernel_rfl
theorem rcount_ok : CtrOK Tryd.prog 123 rcountC :=
  fun_ok (G := rcountG) (Λ := []) tysOK (ctrs_cons rlist_ok ctrs_nil) mixed (by kernel_rfl) (by kernel_rfl) (by kernel_rfl) (by kernel_rfl) lp_nil fun (x : Int) hw _ => by
    rw [congrFun rcount_tree x]
    exact holds_val (d := rcountC.fn x) (by kernel_rfl) (by simp [Tree.safe])
end Go.Ev.D
/- How many are in a set: the library's sums. -/
set_option linter.unusedVariables false
set_option linter.unusedSimpArgs false
namespace Go.Ev
def pA (m : Nat) : Nat := ((m / 2) &&& 6148914691236517205) + (m &&& 6148914691236517205)
def pB (m : Nat) : Nat := ((m / 4) &&& 3689348814741910323) + (m &&& 3689348814741910323)
def pC (m : Nat) : Nat := (m / 16 + m) &&& 1085102592571150095
def pD (m : Nat) : Nat := m + m / 256
def pE (m : Nat) : Nat := m + m / 65536
def pF (m : Nat) : Nat := m + m / 4294967296
def pcN (m : Nat) : Nat := pF (pE (pD (pC (pB (pA m))))) &&& 127
def cntN (m : Nat) : Nat → Nat
  | 0 => 0
  | k + 1 => (m / 2 ^ (15 - k)) % 2 + cntN m k
def allN (p : Nat → Bool) : Nat → Bool
  | 0 => true
  | k + 1 => bif p k then allN p k else false
theorem allN_all {p : Nat → Bool} : ∀ k, allN p k = true → ∀ i, i < k → p i = true
  | 0, _, i, hi => by omega
  | k + 1, h, i, hi => by
    unfold allN at h
    cases hk : p k with
    | false => rw [hk] at h; cases h
    | true =>
      rw [hk] at h
      by_cases he : i = k
      · rw [he]; exact hk
      · exact allN_all k h i (by omega)
def pcRow (o p : Nat) : Bool := allN (fun q => Nat.beq (pcN (256 * (o + p) + q)) (cntN (256 * (o + p) + q) 16)) 256
theorem pc_rows0 : allN (pcRow 0) 16 = true := by decide +kernel
theorem pc_rows1 : allN (pcRow 16) 16 = true := by decide +kernel
theorem pc_rows2 : allN (pcRow 32) 16 = true := by decide +kernel
theorem pc_rows3 : allN (pcRow 48) 16 = true := by decide +kernel
theorem pc_rows4 : allN (pcRow 64) 16 = true := by decide +kernel
theorem pc_rows5 : allN (pcRow 80) 16 = true := by decide +kernel
theorem pc_rows6 : allN (pcRow 96) 16 = true := by decide +kernel
theorem pc_rows7 : allN (pcRow 112) 16 = true := by decide +kernel
theorem pc_rows8 : allN (pcRow 128) 16 = true := by decide +kernel
theorem pc_rows9 : allN (pcRow 144) 16 = true := by decide +kernel
theorem pc_rows10 : allN (pcRow 160) 16 = true := by decide +kernel
theorem pc_rows11 : allN (pcRow 176) 16 = true := by decide +kernel
theorem pc_rows12 : allN (pcRow 192) 16 = true := by decide +kernel
theorem pc_rows13 : allN (pcRow 208) 16 = true := by decide +kernel
theorem pc_rows14 : allN (pcRow 224) 16 = true := by decide +kernel
theorem pc_rows15 : allN (pcRow 240) 16 = true := by decide +kernel
theorem pc_row {p : Nat} (hp : p < 256) : ∃ o i, i < 16 ∧ p = o + i ∧ allN (pcRow o) 16 = true := by
  have : p / 16 < 16 := by omega
  refine ⟨16 * (p / 16), p % 16, by omega, by omega, ?_⟩
  generalize p / 16 = d at this
  rcases (show d = 0 ∨ d = 1 ∨ d = 2 ∨ d = 3 ∨ d = 4 ∨ d = 5 ∨ d = 6 ∨ d = 7 ∨ d = 8 ∨ d = 9 ∨ d = 10 ∨ d = 11 ∨ d = 12 ∨ d = 13 ∨ d = 14 ∨ d = 15 by omega) with rfl | rfl | rfl | rfl | rfl | rfl | rfl | rfl | rfl | rfl | rfl | rfl | rfl | rfl | rfl | rfl
  · exact pc_rows0
  · exact pc_rows1
  · exact pc_rows2
  · exact pc_rows3
  · exact pc_rows4
  · exact pc_rows5
  · exact pc_rows6
  · exact pc_rows7
  · exact pc_rows8
  · exact pc_rows9
  · exact pc_rows10
  · exact pc_rows11
  · exact pc_rows12
  · exact pc_rows13
  · exact pc_rows14
  · exact pc_rows15
theorem pc_all {m : Nat} (hm : m < 65536) : pcN m = cntN m 16 := by
  obtain ⟨o, i, hi, he, h⟩ := pc_row (p := m / 256) (by omega)
  have h1 := allN_all 256 (allN_all 16 h i hi) (m % 256) (by omega)
  have h2 := Nat.eq_of_beq_eq_true h1
  rw [← he] at h2
  rwa [show 256 * (m / 256) + m % 256 = m by omega] at h2
theorem elems_cnt {m : Nat} : ∀ k, k ≤ 16 → ((elemsF (m : Int) k).length : Int) = cntN m k
  | 0, _ => rfl
  | k + 1, hk => by
    have hn : (16 : Int) - (k + 1 : Nat) = ((15 - k : Nat) : Int) := by omega
    unfold elemsF cntN
    rw [List.length_append, hn, has_nat (by omega)]
    have := elems_cnt (m := m) k (by omega)
    have hb : m.testBit (15 - k) = decide (m / 2 ^ (15 - k) % 2 = 1) := Nat.testBit_eq_decide_div_mod_eq
    rw [hb]
    have h2 : m / 2 ^ (15 - k) % 2 = 0 ∨ m / 2 ^ (15 - k) % 2 = 1 := by omega
    rcases h2 with h2 | h2 <;> rw [h2]
    · rw [decide_eq_false (by decide)]; simp only [cond_false, List.length_nil]; omega
    · rw [decide_eq_true rfl]; simp only [cond_true, List.length_cons, List.length_nil]; omega
end Go.Ev
