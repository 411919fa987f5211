/- Sound costs, and configurations that may be. -/
import Derived.Test.YtohodbfoeejbjaaPNodes
import Derived.Test.YtohodbfoeejbjaaEvValid
set_option linter.unusedVariables false
set_option linter.unusedSimpArgs false
namespace Go.Ev.P
open Go.Proofs
def upC : Ctr := { args := [gCosts], res := [.sl (.int .i64)], pre := none, fn := fun (x : DCosts) => elemsF x.1 16 }
def upG : List (Nat × Ctr) := [(166, listC)]
theorem up_tree : (fun x : DCosts => evFn (mkC tys upG []) (fnOf Try.prog 130) (resL upC.args x) upC.res) =
  (fun x => Tree.leaf (elemsF x.1 (16 : Nat))) := by kernel_rfl
theorem up_ok : CtrOK Try.prog 130 upC :=
  fun_ok (G := upG) (Λ := []) tysOK (ctrs_cons list_ok ctrs_nil) mixed (by kernel_rfl) (by kernel_rfl) (by kernel_rfl) (by kernel_rfl) lp_nil fun (x : DCosts) hw _ => by
    rw [congrFun up_tree x]
    exact holds_val (d := upC.fn x) (by kernel_rfl) (by simp [Tree.safe])
def rupC : Ctr := { args := [gCosts], res := [.sl (.int .i64)], pre := none, fn := fun (x : DCosts) => elemsF x.1 16 }
def rupG : List (Nat × Ctr) := [(132, rlistC)]
theorem rup_tree : (fun x : DCosts => evFn (mkC tys rupG []) (fnOf Try.prog 88) (resL rupC.args x) rupC.res) =
  (fun x => Tree.leaf (elemsF x.1 (16 : Nat))) := by kernel_rfl
theorem rup_ok : CtrOK Try.prog 88 rupC :=
  fun_ok (G := rupG) (Λ := []) tysOK (ctrs_cons rlist_ok ctrs_nil) mixed (by kernel_rfl) (by kernel_rfl) (by kernel_rfl) (by kernel_rfl) lp_nil fun (x : DCosts) hw _ => by
    rw [congrFun rup_tree x]
    exact holds_val (d := rupC.fn x) (by kernel_rfl) (by simp [Tree.safe])
def soundG : List (Nat × Ctr) := [(130, upC), (128, rcostC)]
theorem soundG_ok : CtrsOK Try.prog (fun f => lk f soundG) := (ctrs_cons up_ok (ctrs_cons rcost_ok ctrs_nil))
def soundC : Ctr := { args := [gCosts], res := [.bool], pre := none, fn := fun (x : DCosts) => soundF x }
def soundD : LoopD where
  prom := []
  ts := [(1, .ptr 1 gCosts), (2, .val .bool), (3, .ptr 3 (.arr 16 (.int .u32))), (15, .val (.sl (.int .i64))), (16, .val (.int .i64)), (17, .val (.int .i64))]
  bs := [(1, .var gCosts), (3, .var (.arr 16 (.int .u32)))]
  pre := fun (x : (Bool × List Int × Int × Int × Unit) × DCosts × List Int × Unit) => 0 ≤ x.1.2.2.2.1 ∧ x.1.2.2.2.1 ≤ x.1.2.2.1 ∧ x.1.2.2.1 = x.1.2.1.length ∧ x.1.2.2.1 ≤ 16 ∧ ∀ n ∈ x.1.2.1, 0 ≤ n ∧ n < 16
  out := fun (x : (Bool × List Int × Int × Int × Unit) × DCosts × List Int × Unit) =>
    .br (goodL x.2.1 (x.1.2.1.drop x.1.2.2.2.1.toNat)) (.leaf (.exit 0, ((x.1.1, x.1.2.1, x.1.2.2.1, x.1.2.2.1, ()), x.2.1, fillL x.2.1 (x.1.2.1.drop x.1.2.2.2.1.toNat) x.2.2.1, ())))
      (.leaf (.ret, ((false, x.1.2.1, x.1.2.2.1, (badL x.2.1 (x.1.2.1.drop x.1.2.2.2.1.toNat) x.2.2.1 x.1.2.2.2.1).1, ()), x.2.1, (badL x.2.1 (x.1.2.1.drop x.1.2.2.2.1.toNat) x.2.2.1 x.1.2.2.2.1).2, ())))
theorem sound_round : (fun x : (Bool × List Int × Int × Int × Unit) × DCosts × List Int × Unit => roundOf (mkC tys soundG [(0, soundD.spec)]) soundD (loopB 0 (bodyOf (fnOf Try.prog 80))) x) =
  (fun x =>
    Tree.br (decide (x.1.2.2.2.1 < x.1.2.2.1))
      (Tree.need ((0 : Int) ≤ x.1.2.2.2.1 ∧ x.1.2.2.2.1 < (↑(List.length x.1.2.1) : Int))
        (Tree.need ((0 : Int) ≤ List.getD x.1.2.1 (Int.toNat x.1.2.2.2.1) (0 : Int) ∧ List.getD x.1.2.1 (Int.toNat x.1.2.2.2.1) (0 : Int) < (16 : Int))
          (Tree.br (!rcostF (List.getD x.2.1.2 (Int.toNat (List.getD x.1.2.1 (Int.toNat x.1.2.2.2.1) (0 : Int))) (0 : Int)))
            (Tree.leaf (Ex.ret, some ((false, x.1.2.1, x.1.2.2.1, x.1.2.2.2.1, ()), x.2.1, x.2.2.1, ())))
            (Tree.need ((0 : Int) ≤ List.getD x.1.2.1 (Int.toNat x.1.2.2.2.1) (0 : Int) ∧ List.getD x.1.2.1 (Int.toNat x.1.2.2.2.1) (0 : Int) < (16 : Int))
              (Tree.need ((0 : Int) ≤ List.getD x.1.2.1 (Int.toNat x.1.2.2.2.1) (0 : Int) ∧ List.getD x.1.2.1 (Int.toNat x.1.2.2.2.1) (0 : Int) < (16 : Int))
                (Tree.leaf
                  (Ex.normal,
                    some
                      ((x.1.1, x.1.2.1, x.1.2.2.1, IntKind.wrap IntKind.i64 (x.1.2.2.2.1 + (1 : Int)), ()), x.2.1,
                        List.set x.2.2.1 (Int.toNat (List.getD x.1.2.1 (Int.toNat x.1.2.2.2.1) (0 : Int)))
                          (List.getD x.2.1.2 (Int.toNat (List.getD x.1.2.1 (Int.toNat x.1.2.2.2.1) (0 : Int))) (0 : Int)),
                        ()))))))))
      (Tree.leaf (Ex.exit (0 : Nat), some ((x.1.1, x.1.2.1, x.1.2.2.1, x.1.2.2.2.1, ()), x.2.1, x.2.2.1, ())))) := by kernel_rfl
theorem sound_loop : LoopOK (mkC tys soundG [(0, soundD.spec)]) soundD.spec (loopB 0 (bodyOf (fnOf Try.prog 80))) :=
  loopD_ok (fun x => congrFun sound_round x) (fun (x : (Bool × List Int × Int × Int × Unit) × DCosts × List Int × Unit) => (x.1.2.2.1 - x.1.2.2.2.1).toNat) fun (x : (Bool × List Int × Int × Int × Unit) × DCosts × List Int × Unit) hp => by
    obtain ⟨⟨b, l, m, i, ⟨⟩⟩, c, w, ⟨⟩⟩ := x
    obtain ⟨h1, h2, h3, h4, h5⟩ := hp
    simp only at h1 h2 h3 h4 h5
    simp only [Tree.holds]
    refine ⟨fun h => ?_, fun h => ?_⟩
    · have h' : i < m := by simpa using h
      have e : IntKind.i64.wrap (i + 1) = i + 1 := i64_id (by omega) (by omega)
      have hd := drop_step (l := l) (0 : Int) h1 (by omega)
      have hn : l.getD i.toNat 0 ∈ l := by
        have : i.toNat < l.length := by omega
        simp [List.getD, this]
      have hb := h5 _ hn
      have hr : 0 ≤ i ∧ i < (l.length : Int) := by omega
      generalize l.getD i.toNat 0 = n at *
      refine ⟨hr, hb, fun hc => ⟨_, rfl, fun G hG => ?_⟩, fun hc => ⟨hb, hb, _, rfl, ⟨?_, ?_, h3, h4, h5⟩, ?_, fun G hG => ?_⟩⟩
      · have hc' : rcostF (costAt c n) = false := by simpa [costAt] using hc
        have hg : goodL c (l.drop i.toNat) = false := by rw [hd]; simp [goodL, hc']
        have hG' := (hG.2 hg : G _)
        rw [hd] at hG'
        simp only [badL, hc', cond_false] at hG'
        exact hG'
      · show 0 ≤ IntKind.i64.wrap (i + 1); omega
      · show IntKind.i64.wrap (i + 1) ≤ m; omega
      · show (m - IntKind.i64.wrap (i + 1)).toNat < (m - i).toNat; omega
      · have hc' : rcostF (costAt c n) = true := by simpa [costAt] using hc
        have hg : goodL c (l.drop i.toNat) = goodL c (l.drop (i + 1).toNat) := by rw [hd]; simp [goodL, hc']
        have hf : fillL c (l.drop i.toNat) w = fillL c (l.drop (i + 1).toNat) (w.set n.toNat (costAt c n)) := by rw [hd]; rfl
        have hbd : badL c (l.drop i.toNat) w i = badL c (l.drop (i + 1).toNat) (w.set n.toNat (costAt c n)) (i + 1) := by rw [hd]; simp only [badL, hc', cond_true]
        have hG' : (goodL c (l.drop i.toNat) = true → G (.exit 0, ((b, l, m, m, ()), c, fillL c (l.drop i.toNat) w, ()))) ∧ (goodL c (l.drop i.toNat) = false → G (.ret, ((false, l, m, (badL c (l.drop i.toNat) w i).1, ()), c, (badL c (l.drop i.toNat) w i).2, ()))) := hG
        rw [hg, hf, hbd] at hG'
        show (goodL c (l.drop (IntKind.i64.wrap (i + 1)).toNat) = true → G (.exit 0, ((b, l, m, m, ()), c, fillL c (l.drop (IntKind.i64.wrap (i + 1)).toNat) (w.set n.toNat (costAt c n)), ()))) ∧
          (goodL c (l.drop (IntKind.i64.wrap (i + 1)).toNat) = false → G (.ret, ((false, l, m, (badL c (l.drop (IntKind.i64.wrap (i + 1)).toNat) (w.set n.toNat (costAt c n)) (IntKind.i64.wrap (i + 1))).1, ()), c, (badL c (l.drop (IntKind.i64.wrap (i + 1)).toNat) (w.set n.toNat (costAt c n)) (IntKind.i64.wrap (i + 1))).2, ())))
        rw [e]
        exact hG'
    · have h' : ¬ i < m := by simpa using h
      have hi : i = m := by omega
      subst hi
      have hd : l.drop i.toNat = [] := List.drop_eq_nil_of_le (by omega)
      refine ⟨_, rfl, fun G hG => ?_⟩
      have hG' : (goodL c (l.drop i.toNat) = true → G (.exit 0, ((b, l, i, i, ()), c, fillL c (l.drop i.toNat) w, ()))) ∧ (goodL c (l.drop i.toNat) = false → G (.ret, ((false, l, i, (badL c (l.drop i.toNat) w i).1, ()), c, (badL c (l.drop i.toNat) w i).2, ()))) := hG
      rw [hd] at hG'
      exact hG'.1 rfl
theorem sound_tree : (fun x : DCosts => evFn (mkC tys soundG [(0, soundD.spec)]) (fnOf Try.prog 80) (resL soundC.args x) soundC.res) =
  (fun x =>
    Tree.br (bif decide (x.1 < (0 : Int)) then true else decide (x.1 ≥ (65536 : Int))) (Tree.leaf false)
      (Tree.need
        ((0 : Int) ≤ (0 : Int) ∧
          (0 : Int) ≤ (↑(List.length (elemsF x.1 (16 : Nat))) : Int) ∧
            (↑(List.length (elemsF x.1 (16 : Nat))) : Int) = (↑(List.length (elemsF x.1 (16 : Nat))) : Int) ∧
              (↑(List.length (elemsF x.1 (16 : Nat))) : Int) ≤ (16 : Int) ∧ ∀ (n : Int), n ∈ elemsF x.1 (16 : Nat) → (0 : Int) ≤ n ∧ n < (16 : Int))
        (Tree.br (goodL x (List.drop (Int.toNat (0 : Int)) (elemsF x.1 (16 : Nat))))
          (Tree.leaf (geq (GTy.arr (16 : Nat) (GTy.int IntKind.u32)) x.2 (fillL x (List.drop (Int.toNat (0 : Int)) (elemsF x.1 (16 : Nat))) (List.replicate (16 : Nat) (0 : Int))))) (Tree.leaf false)))) := by kernel_rfl
theorem sound_ok : CtrOK Try.prog 80 soundC :=
  fun_ok (G := soundG) (Λ := [(0, soundD.spec)]) tysOK soundG_ok mixed (by kernel_rfl) (by kernel_rfl) (by kernel_rfl) (by kernel_rfl) (lp_cons sound_loop lp_nil) fun (x : DCosts) hw _ => by
    rw [congrFun sound_tree x]
    have hl : x.2.length = 16 := hw.2.1
    refine holds_val (d := false) (sound_fn hl) ?_
    have hn : ∀ n ∈ elemsF x.1 16, 0 ≤ n ∧ n < 16 := fun n h => by
      have := (mem_elems (Nat.le_refl _)).1 h
      omega
    have hlen := elems_len x.1 16
    exact ⟨fun _ => trivial, fun _ => ⟨⟨by omega, by omega, rfl, by omega, hn⟩, fun _ => trivial, fun _ => trivial⟩⟩
def rsoundG : List (Nat × Ctr) := [(85, rhasC)]
theorem rsoundG_ok : CtrsOK Try.prog (fun f => lk f rsoundG) := (ctrs_cons rhas_ok ctrs_nil)
def rsoundC : Ctr := { args := [gCosts], res := [.bool], pre := none, fn := fun (x : DCosts) => soundF x }
def rsoundD : LoopD where
  prom := []
  ts := [(1, .ptr 1 gCosts), (2, .val .bool), (6, .val (.arr 16 (.int .u32))), (7, .val (.int .i64))]
  bs := [(1, .var gCosts)]
  pre := fun (x : (Bool × List Int × Int × Unit) × DCosts × Unit) => 0 ≤ x.1.2.2.1 ∧ x.1.2.2.1 ≤ 16 ∧ x.1.2.1 = x.2.1.2
  out := fun (x : (Bool × List Int × Int × Unit) × DCosts × Unit) => .br (allOk x.2.1 (16 - x.1.2.2.1).toNat) (.leaf (.exit 0, ((x.1.1, x.1.2.1, 16, ()), x.2.1, ()))) (.leaf (.ret, ((false, x.1.2.1, firstBad x.2.1 (16 - x.1.2.2.1).toNat, ()), x.2.1, ())))
theorem rsound_round : (fun x : (Bool × List Int × Int × Unit) × DCosts × Unit => roundOf (mkC tys rsoundG [(0, rsoundD.spec)]) rsoundD (loopB 0 (bodyOf (fnOf Try.prog 84))) x) =
  (fun x =>
    Tree.br (decide (x.1.2.2.1 < (16 : Int)))
      (Tree.need ((0 : Int) ≤ x.1.2.2.1 ∧ x.1.2.2.1 < (16 : Int))
        (Tree.br
          (bif
              !geq GTy.bool (hasF x.2.1.1 x.1.2.2.1)
                  (bif decide (List.getD x.1.2.1 (Int.toNat x.1.2.2.1) (0 : Int) ≥ (1 : Int)) then decide (List.getD x.1.2.1 (Int.toNat x.1.2.2.1) (0 : Int) ≤ (65536 : Int)) else false) then
            true
          else bif !hasF x.2.1.1 x.1.2.2.1 then List.getD x.1.2.1 (Int.toNat x.1.2.2.1) (0 : Int) != (0 : Int) else false)
          (Tree.leaf (Ex.ret, some ((false, x.1.2.1, x.1.2.2.1, ()), x.2.1, ()))) (Tree.leaf (Ex.normal, some ((x.1.1, x.1.2.1, IntKind.wrap IntKind.i64 (x.1.2.2.1 + (1 : Int)), ()), x.2.1, ())))))
      (Tree.leaf (Ex.exit (0 : Nat), some ((x.1.1, x.1.2.1, x.1.2.2.1, ()), x.2.1, ())))) := by kernel_rfl
theorem rsound_tree : (fun x : DCosts => evFn (mkC tys rsoundG [(0, rsoundD.spec)]) (fnOf Try.prog 84) (resL rsoundC.args x) rsoundC.res) =
  (fun x =>
    Tree.need ((0 : Int) ≤ (0 : Int) ∧ (0 : Int) ≤ (16 : Int) ∧ x.2 = x.2)
      (Tree.br (allOk x (Int.toNat ((16 : Int) - (0 : Int)))) (Tree.leaf (bif decide (x.1 ≥ (0 : Int)) then decide (x.1 ≤ (65535 : Int)) else false)) (Tree.leaf false))) := by kernel_rfl
theorem rsound_loop : LoopOK (mkC tys rsoundG [(0, rsoundD.spec)]) rsoundD.spec (loopB 0 (bodyOf (fnOf Try.prog 84))) :=
  loopD_ok (fun x => congrFun rsound_round x) (fun (x : (Bool × List Int × Int × Unit) × DCosts × Unit) => (16 - x.1.2.2.1).toNat) fun (x : (Bool × List Int × Int × Unit) × DCosts × Unit) hp => by
    obtain ⟨⟨b, l, i, ⟨⟩⟩, c, ⟨⟩⟩ := x
    obtain ⟨h1, h2, h3⟩ := hp
    simp only at h1 h2 h3
    subst h3
    simp only [Tree.holds]
    refine ⟨fun h => ?_, fun h => ?_⟩
    · have h' : i < 16 := by simpa using h
      have e : IntKind.i64.wrap (i + 1) = i + 1 := i64_id (by omega) (by omega)
      have hk : (16 - i).toNat = (16 - (i + 1)).toNat + 1 := by omega
      have hi : (16 : Int) - ((16 - (i + 1)).toNat + 1 : Nat) = i := by omega
      have hr := round_ok (c := c) (n := i)
      simp only [costAt] at hr
      refine ⟨⟨h1, h'⟩, fun hc => ⟨_, rfl, fun G hG => ?_⟩, fun hc => ⟨_, rfl, ⟨?_, ?_, rfl⟩, ?_, fun G hG => ?_⟩⟩
      · have ho : okAt c i = false := by
          have := hr.symm.trans hc
          simpa using this
        have hG' : allOk c (16 - i).toNat = false → G (.ret, ((false, c.2, firstBad c (16 - i).toNat, ()), c, ())) := hG.2
        rw [hk] at hG'
        simp only [allOk, firstBad, hi, ho, Bool.false_and, cond_false] at hG'
        exact hG' trivial
      · show 0 ≤ IntKind.i64.wrap (i + 1); omega
      · show IntKind.i64.wrap (i + 1) ≤ 16; omega
      · show (16 - IntKind.i64.wrap (i + 1)).toNat < (16 - i).toNat; omega
      · have ho : okAt c i = true := by
          have := hr.symm.trans hc
          simpa using this
        have hG' : (allOk c (16 - i).toNat = true → G (.exit 0, ((b, c.2, 16, ()), c, ()))) ∧ (allOk c (16 - i).toNat = false → G (.ret, ((false, c.2, firstBad c (16 - i).toNat, ()), c, ()))) := hG
        rw [hk] at hG'
        simp only [allOk, firstBad, hi, ho, Bool.true_and, cond_true] at hG'
        show (allOk c (16 - IntKind.i64.wrap (i + 1)).toNat = true → G (.exit 0, ((b, c.2, 16, ()), c, ()))) ∧ (allOk c (16 - IntKind.i64.wrap (i + 1)).toNat = false → G (.ret, ((false, c.2, firstBad c (16 - IntKind.i64.wrap (i + 1)).toNat, ()), c, ())))
        rw [e]
        exact hG'
    · have h' : ¬ i < 16 := by simpa using h
      have hi : i = 16 := by omega
      subst hi
      refine ⟨_, rfl, fun G hG => ?_⟩
      exact hG.1 rfl
theorem rsound_ok : CtrOK Try.prog 84 rsoundC :=
  fun_ok (G := rsoundG) (Λ := [(0, rsoundD.spec)]) tysOK rsoundG_ok mixed (by kernel_rfl) (by kernel_rfl) (by kernel_rfl) (by kernel_rfl) (lp_cons rsound_loop lp_nil) fun (x : DCosts) hw _ => by
    rw [congrFun rsound_tree x]
    refine holds_val (d := false) (rsound_fn x) ?_
    exact ⟨⟨by omega, by omega, rfl⟩, fun _ => trivial, fun _ => trivial⟩
end Go.Ev.P
