/- Links, in plain Lean. -/
import Derived.Conc.LoneCalls
import Derived.Conc.SmallLaws
import Derived.Test.YtohodbfoeejbjaaDoorTextCostsReads5

set_option linter.unusedVariables false
set_option linter.unusedSimpArgs false
namespace Go.Ev
def withoutF (set n : Int) : Int := bif !rightF n then set else bitsOp .andNot .i64 set (IntKind.i64.wrap (1 * 2 ^ min n.toNat 64))
def cutF (c : DCosts) (n : Int) : DCosts := bif !rightF n then c else (withoutF c.1 n, c.2.set n.toNat 0)
def ofF (c : DCosts) (n : Int) : Int := bif !hasF c.1 n then 4294967295 else c.2.getD n.toNat 0
theorem has_in {s n : Int} (h : hasF s n = true) : 0 ≤ n ∧ n < 16 := by
  unfold hasF at h
  cases hr : rightF n with
  | true => exact rightF_iff.1 hr
  | false => rw [hr] at h; cases h
theorem set_bad {n w : Int} : (bif bif !rightF n then true else decide (w < (1 : Int)) then true else decide (w > (65536 : Int))) = (bif !rightF n then true else !rcostF w) := by
  unfold rcostF
  cases rightF n with
  | false => rfl
  | true =>
    by_cases h1 : w < 1
    · rw [decide_eq_true h1, decide_eq_false (show ¬ w ≥ 1 by omega)]; rfl
    · rw [decide_eq_false h1, decide_eq_true (show w ≥ 1 by omega)]
      by_cases h2 : w > 65536
      · rw [decide_eq_true h2, decide_eq_false (show ¬ w ≤ 65536 by omega)]; rfl
      · rw [decide_eq_false h2, decide_eq_true (show w ≤ 65536 by omega)]; rfl
/-- One link's text. -/
def lnkB (c : DCosts) (n : Int) : List UInt8 := (textN (withF 0 n) ++ natT (c.2.getD n.toNat 0).toNat) ++ [32]
def lnksB (c : DCosts) (l : List Int) : List UInt8 := l.flatMap (lnkB c)
def linksT (c : DCosts) : List UInt8 := lnksB c (elemsF c.1 16)
theorem lnks_cons (c : DCosts) (j : Int) (l : List Int) : lnksB c (j :: l) = lnkB c j ++ lnksB c l := rfl
theorem lnkB_len (c : DCosts) (n : Int) : (lnkB c n).length ≤ 40 := by
  have h1 := textN_len (withF 0 n)
  have h3 := digN_len 20 (c.2.getD n.toNat 0).toNat
  unfold lnkB natT
  simp only [List.length_append, List.length_cons, List.length_nil]
  omega
def cOK (c : DCosts) : Prop := c.2.length = 16 ∧ ∀ j : Nat, 0 ≤ c.2.getD j 0 ∧ c.2.getD j 0 ≤ 4294967295
theorem cOK_wt {c : DCosts} (h : wt gCosts c) : cOK c := ⟨h.2.1, fun j => by
  by_cases hl : j < c.2.length
  · have h3 : IntKind.u32.has (c.2[j]) := h.2.2 (c.2[j]) (List.getElem_mem hl)
    rw [has_u32] at h3
    simpa [List.getD, hl] using h3
  · have : c.2.getD j (0 : Int) = 0 := by simp [List.getD, Nat.not_lt.1 hl]
    rw [this]; exact ⟨Int.le_refl _, by decide⟩⟩
theorem without_nat {m j : Nat} (hm : m < 65536) (hj : j < 16) : ∃ k : Nat, k < 65536 ∧ withoutF (m : Int) (j : Int) = (k : Int) ∧ ∀ n, n < 16 → k.testBit n = (m.testBit n && !(decide (j = n))) := by
  have hp : 2 ^ j ≤ 2 ^ 15 := Nat.pow_le_pow_right (by omega) (by omega)
  have h15 : (2 : Nat) ^ 15 = 32768 := by decide
  have e : min (j : Int).toNat 64 = j := by omega
  have e2 : (1 : Int) * 2 ^ j = ((2 ^ j : Nat) : Int) := by simp
  obtain ⟨v, hv⟩ : ∃ v, v = (BitVec.ofInt 64 (m : Int) &&& ~~~ BitVec.ofInt 64 ((2 ^ j : Nat) : Int)) := ⟨_, rfl⟩
  have hmN : (BitVec.ofInt 64 (m : Int)).toNat = m := by
    rw [ofInt_toNat (by omega) (by omega)]
    exact Int.toNat_natCast m
  have hle : v.toNat ≤ m := by
    rw [hv, BitVec.toNat_and, hmN]
    exact Nat.and_le_left
  refine ⟨v.toNat, by omega, ?_, fun n hn => ?_⟩
  · unfold withoutF
    rw [right_nat hj]
    simp only [Bool.not_true, cond_false]
    rw [e, e2]
    have hw : IntKind.i64.wrap ((2 ^ j : Nat) : Int) = ((2 ^ j : Nat) : Int) := by
      generalize 2 ^ j = p at hp ⊢
      exact i64_id (by omega) (by omega)
    rw [hw]
    show IntKind.i64.wrap ((BitVec.ofInt 64 (m : Int) &&& ~~~ BitVec.ofInt 64 ((2 ^ j : Nat) : Int)).toNat : Int) = _
    rw [← hv]
    exact i64_id (by omega) (by omega)
  · have h1 : v.toNat.testBit n = v.getLsbD n := rfl
    have h2 : m.testBit n = (BitVec.ofInt 64 (m : Int)).getLsbD n := by
      show _ = (BitVec.ofInt 64 (m : Int)).toNat.testBit n
      rw [hmN]
    have h3 : (BitVec.ofInt 64 ((2 ^ j : Nat) : Int)).getLsbD n = decide (j = n) := by
      show (BitVec.ofInt 64 ((2 ^ j : Nat) : Int)).toNat.testBit n = _
      have : (BitVec.ofInt 64 ((2 ^ j : Nat) : Int)).toNat = 2 ^ j := by
        have h64 : ((2 ^ j : Nat) : Int) < 2 ^ 64 := by
          generalize 2 ^ j = p at hp ⊢
          omega
        rw [ofInt_toNat (Int.natCast_nonneg _) h64]
        exact Int.toNat_natCast _
      rw [this, Nat.testBit_two_pow]
    rw [h1, h2, hv, BitVec.getLsbD_and, BitVec.getLsbD_not, h3, decide_eq_true (show n < 64 by omega), Bool.true_and]
theorem sound_iff {c : DCosts} : soundF c = true ↔ ∃ m : Nat, m < 65536 ∧ c.1 = (m : Int) ∧ ∀ n : Nat, n < 16 → (bif m.testBit n then rcostF (c.2.getD n 0) else c.2.getD n 0 == 0) = true := by
  have hok : ∀ m n : Nat, n < 16 → c.1 = (m : Int) → okAt c (n : Int) = (bif m.testBit n then rcostF (c.2.getD n 0) else c.2.getD n 0 == 0) := fun m n hn hm => by
    unfold okAt costAt
    rw [hm, has_nat hn]
    rfl
  constructor
  · intro h
    unfold soundF at h
    by_cases h0 : c.1 < 0
    · rw [decide_eq_true h0] at h; cases h
    · by_cases h1 : c.1 ≥ 65536
      · rw [decide_eq_false h0, decide_eq_true h1] at h; cases h
      · rw [decide_eq_false h0, decide_eq_false h1] at h
        have h2 : allOk c 16 = true := h
        obtain ⟨m, hm⟩ := Int.eq_ofNat_of_zero_le (show 0 ≤ c.1 by omega)
        refine ⟨m, by omega, hm, fun n hn => ?_⟩
        rw [← hok m n hn hm]
        exact (allOk_iff (Nat.le_refl _)).1 h2 n (by omega) (by omega)
  · rintro ⟨m, hm, hc, hn⟩
    unfold soundF
    rw [decide_eq_false (show ¬ c.1 < 0 by omega), decide_eq_false (show ¬ c.1 ≥ 65536 by omega)]
    show allOk c 16 = true
    refine (allOk_iff (Nat.le_refl _)).2 fun n h0 h1 => ?_
    obtain ⟨k, rfl⟩ := Int.eq_ofNat_of_zero_le (show 0 ≤ n by omega)
    rw [hok m k (by omega) hc]
    exact hn k (by omega)
theorem of_at {c : DCosts} {m n : Nat} (hn : n < 16) (hm : c.1 = (m : Int)) : ofF c (n : Int) = bif !(m.testBit n) then 4294967295 else c.2.getD n 0 := by
  unfold ofF
  rw [hm, has_nat hn]
  rfl
theorem of_off {c : DCosts} {n : Int} (h : rightF n = false) : ofF c n = 4294967295 := by
  unfold ofF hasF
  rw [h]; rfl
theorem sound_cut {c : DCosts} {n : Int} (hl : c.2.length = 16) (h : soundF c = true) : soundF (cutF c n) = true ∧ (cutF c n).2.length = 16 ∧ ofF (cutF c n) n = 4294967295 := by
  cases hr : rightF n with
  | false =>
    have e : cutF c n = c := by unfold cutF; rw [hr]; rfl
    rw [e]
    exact ⟨h, hl, of_off hr⟩
  | true =>
    obtain ⟨j, rfl⟩ := Int.eq_ofNat_of_zero_le (rightF_iff.1 hr).1
    have hj : j < 16 := by have := (rightF_iff.1 hr).2; omega
    obtain ⟨m, hm, hc, hok⟩ := sound_iff.1 h
    obtain ⟨k, hk, hw, hb⟩ := without_nat hm hj
    have e : cutF c (j : Int) = ((k : Int), c.2.set j 0) := by
      unfold cutF
      rw [hr, hc, hw]; rfl
    rw [e]
    refine ⟨sound_iff.2 ⟨k, hk, rfl, fun n hn => ?_⟩, by rw [List.length_set]; exact hl, ?_⟩
    · rw [hb n hn]
      show (bif m.testBit n && !decide (j = n) then rcostF ((c.2.set j 0).getD n 0) else (c.2.set j 0).getD n 0 == 0) = true
      rw [getD_set (by omega)]
      by_cases hjn : j = n
      · rw [if_pos hjn, decide_eq_true hjn]; simp
      · rw [if_neg hjn, decide_eq_false hjn]; simpa using hok n hn
    · rw [of_at (m := k) hj rfl, hb j hj]; simp
theorem set_err {c : DCosts} {n w : Int} (h : ((csetF c n w).2 == 0) = false) : (csetF c n w).1 = c := by
  unfold csetF at h ⊢
  cases hb : (bif !rightF n then true else !rcostF w) with
  | true => rfl
  | false => rw [hb] at h; cases h
theorem sound_set {c : DCosts} {n w : Int} (hl : c.2.length = 16) (h : soundF c = true) : soundF (csetF c n w).1 = true ∧ (csetF c n w).1.2.length = 16 ∧ (((csetF c n w).2 == 0) = true → ofF (csetF c n w).1 n = w) := by
  cases hb : (bif !rightF n then true else !rcostF w) with
  | true =>
    have e : csetF c n w = (c, 1) := by unfold csetF; rw [hb]; rfl
    rw [e]
    exact ⟨h, hl, fun h => by cases h⟩
  | false =>
    have hr : rightF n = true := by cases hr : rightF n with
      | true => rfl
      | false => rw [hr] at hb; cases hb
    have hw : rcostF w = true := by rw [hr] at hb; simpa using hb
    obtain ⟨j, rfl⟩ := Int.eq_ofNat_of_zero_le (rightF_iff.1 hr).1
    have hj : j < 16 := by have := (rightF_iff.1 hr).2; omega
    obtain ⟨m, hm, hc, hok⟩ := sound_iff.1 h
    have hwn := with_nat hm hj
    have ho : m ||| 2 ^ j < 2 ^ 16 := Nat.or_lt_two_pow (by omega) (Nat.lt_of_le_of_lt (Nat.pow_le_pow_right (by omega) (show j ≤ 15 by omega)) (by decide))
    have h16 : (2 : Nat) ^ 16 = 65536 := by decide
    have e : csetF c (j : Int) w = ((((m ||| 2 ^ j : Nat) : Int), c.2.set j w), 0) := by
      unfold csetF
      rw [hb, hc, hwn]; rfl
    rw [e]
    have hbit : ∀ n, (m ||| 2 ^ j).testBit n = (m.testBit n || decide (j = n)) := fun n => by rw [Nat.testBit_or, Nat.testBit_two_pow]
    refine ⟨sound_iff.2 ⟨_, by omega, rfl, fun n hn => ?_⟩, by show (c.2.set j w).length = 16; rw [List.length_set]; exact hl, fun _ => ?_⟩
    · rw [hbit]
      show (bif m.testBit n || decide (j = n) then rcostF ((c.2.set j w).getD n 0) else (c.2.set j w).getD n 0 == 0) = true
      rw [getD_set (by omega)]
      by_cases hjn : j = n
      · rw [if_pos hjn, decide_eq_true hjn]; simpa using hw
      · rw [if_neg hjn, decide_eq_false hjn]; simpa using hok n hn
    · rw [of_at (m := m ||| 2 ^ j) hj rfl, hbit, decide_eq_true rfl]
      show (bif !(m.testBit j || true) then 4294967295 else (c.2.set j w).getD j 0) = w
      rw [getD_set (by omega), if_pos rfl]
      simp
end Go.Ev
/- Links set, cut and asked. -/
set_option linter.unusedVariables false
set_option linter.unusedSimpArgs false
namespace Go.Ev.D
open Go.Proofs
def withoutC : Ctr := { args := [.int .i64, .int .i64], res := [.int .i64], pre := none, fn := fun (x : Int × Int) => withoutF x.1 x.2 }
def withoutG : List (Nat × Ctr) := [(72, rightC)]
theorem without_tree : (fun x : Int × Int => evFn (mkC tys withoutG []) (fnOf Tryd.prog 109) (resL withoutC.args x) withoutC.res) =
  (fun x =>
    Tree.br (!rightF x.2) (Tree.leaf x.1)
      (Tree.need ((0 : Int) ≤ x.2) (Tree.leaf (bitsOp BinOp.andNot IntKind.i64 x.1 (IntKind.wrap IntKind.i64 ((1 : Int) * (2 : Int) ^ min (Int.toNat x.2) (64 : Nat))))))) := by kernel_rfl
theorem without_ok : CtrOK Tryd.prog 109 withoutC :=
  fun_ok (G := withoutG) (Λ := []) tysOK (ctrs_cons right_ok ctrs_nil) mixed (by kernel_rfl) (by kernel_rfl) (by kernel_rfl) (by kernel_rfl) lp_nil fun (x : Int × Int) hw _ => by
    rw [congrFun without_tree x]
    exact holds_val (d := withoutC.fn x) (by kernel_rfl) (by simp [Tree.safe]; intro h; exact (rightF_iff.1 h).1)
def rwithoutC : Ctr := withoutC
def rwithoutG : List (Nat × Ctr) := [(99, rrightC)]
theorem rwithout_tree : (fun x : Int × Int => evFn (mkC tys rwithoutG []) (fnOf Tryd.prog 110) (resL rwithoutC.args x) rwithoutC.res) =
  (fun x =>
    Tree.br (rightF x.2)
      (Tree.need ((0 : Int) ≤ IntKind.wrap IntKind.u64 x.2)
        (Tree.leaf (bitsOp BinOp.andNot IntKind.i64 x.1 (IntKind.wrap IntKind.i64 ((1 : Int) * (2 : Int) ^ min (Int.toNat (IntKind.wrap IntKind.u64 x.2)) (64 : Nat))))))
      (Tree.leaf x.1)) := by kernel_rfl
theorem rwithout_ok : CtrOK Tryd.prog 110 rwithoutC :=
  fun_ok (G := rwithoutG) (Λ := []) tysOK (ctrs_cons rright_ok ctrs_nil) mixed (by kernel_rfl) (by kernel_rfl) (by kernel_rfl) (by kernel_rfl) lp_nil fun (x : Int × Int) hw _ => by
    rw [congrFun rwithout_tree x]
    have e : rwithoutC.fn x = withoutF x.1 x.2 := rfl
    rw [e]
    simp only [Tree.holds, withoutF]
    refine ⟨fun h => ?_, fun h => by rw [h]; rfl⟩
    have h2 := rightF_iff.1 h
    have e : IntKind.u64.wrap x.2 = x.2 := u64_id h2.1 (by omega)
    rw [e, h]
    exact ⟨h2.1, rfl⟩
def rcostC : Ctr := { args := [.int .u32], res := [.bool], pre := none, fn := fun (x : Int) => rcostF x }
def rcostG : List (Nat × Ctr) := []
theorem rcost_tree : (fun x : Int => evFn (mkC tys rcostG []) (fnOf Tryd.prog 108) (resL rcostC.args x) rcostC.res) =
  (fun x => Tree.leaf (bif decide (x ≥ (1 : Int)) then decide (x ≤ (65536 : Int)) else false)) := by kernel_rfl
theorem rcost_ok : CtrOK Tryd.prog 108 rcostC :=
  fun_ok (G := rcostG) (Λ := []) tysOK ctrs_nil mixed (by kernel_rfl) (by kernel_rfl) (by kernel_rfl) (by kernel_rfl) lp_nil fun (x : Int) hw _ => by
    rw [congrFun rcost_tree x]
    exact holds_val (d := rcostC.fn x) (by kernel_rfl) (by simp [Tree.safe])
def csetC : Ctr := { args := [gCosts, .int .i64, .int .u32], res := [gCosts, .int .i64], pre := none, fn := fun (x : DCosts × Int × Int) => csetF x.1 x.2.1 x.2.2 }
def csetG : List (Nat × Ctr) := [(72, rightC), (108, rcostC), (100, withC)]
theorem cset_tree : (fun x : DCosts × Int × Int => evFn (mkC tys csetG []) (fnOf Tryd.prog 42) (resL csetC.args x) csetC.res) =
  (fun x =>
    Tree.br (bif !rightF x.2.1 then true else !rcostF x.2.2) (Tree.leaf (x.1, (1 : Int)))
      (Tree.need ((0 : Int) ≤ x.2.1 ∧ x.2.1 < (16 : Int)) (Tree.leaf ((withF x.1.1 x.2.1, List.set x.1.2 (Int.toNat x.2.1) x.2.2), (0 : Int))))) := by kernel_rfl
theorem cset_ok : CtrOK Tryd.prog 42 csetC :=
  fun_ok (G := csetG) (Λ := []) tysOK (ctrs_cons right_ok (ctrs_cons rcost_ok (ctrs_cons with_ok ctrs_nil))) mixed (by kernel_rfl) (by kernel_rfl) (by kernel_rfl) (by kernel_rfl) lp_nil fun (x : DCosts × Int × Int) hw _ => by
    rw [congrFun cset_tree x]
    exact holds_val (d := csetC.fn x) (by kernel_rfl) (by simp [Tree.safe]; intro h _; exact rightF_iff.1 h)
def rcsetC : Ctr := csetC
def rcsetG : List (Nat × Ctr) := [(99, rrightC), (101, rwithC)]
theorem rcsetG_ok : CtrsOK Tryd.prog (fun f => lk f rcsetG) := (ctrs_cons rright_ok (ctrs_cons rwith_ok ctrs_nil))
theorem rcset_tree : (fun x : DCosts × Int × Int => evFn (mkC tys rcsetG []) (fnOf Tryd.prog 43) (resL rcsetC.args x) rcsetC.res) =
  (fun x =>
    Tree.br (bif bif !rightF x.2.1 then true else decide (x.2.2 < (1 : Int)) then true else decide (x.2.2 > (65536 : Int))) (Tree.leaf (x.1, (1 : Int)))
      (Tree.need ((0 : Int) ≤ x.2.1 ∧ x.2.1 < (16 : Int)) (Tree.leaf ((withF x.1.1 x.2.1, List.set x.1.2 (Int.toNat x.2.1) x.2.2), (0 : Int))))) := by kernel_rfl
theorem rcset_ok : CtrOK Tryd.prog 43 rcsetC :=
  fun_ok (G := rcsetG) (Λ := []) tysOK rcsetG_ok mixed (by kernel_rfl) (by kernel_rfl) (by kernel_rfl) (by kernel_rfl) lp_nil fun (x : DCosts × Int × Int) hw _ => by
    rw [congrFun rcset_tree x]
    have e : rcsetC.fn x = csetF x.1 x.2.1 x.2.2 := rfl
    rw [e]
    unfold csetF
    simp only [Tree.holds]
    rw [set_bad]
    refine ⟨fun h => by rw [h]; rfl, fun h => ?_⟩
    rw [h]
    refine ⟨?_, rfl⟩
    cases hr : rightF x.2.1 with
    | true => exact rightF_iff.1 hr
    | false => rw [hr] at h; cases h
def cutC : Ctr := { args := [gCosts, .int .i64], res := [gCosts], pre := none, fn := fun (x : DCosts × Int) => cutF x.1 x.2 }
def cutG : List (Nat × Ctr) := [(72, rightC), (109, withoutC)]
theorem cut_tree : (fun x : DCosts × Int => evFn (mkC tys cutG []) (fnOf Tryd.prog 46) (resL cutC.args x) cutC.res) =
  (fun x => Tree.br (!rightF x.2) (Tree.leaf x.1) (Tree.need ((0 : Int) ≤ x.2 ∧ x.2 < (16 : Int)) (Tree.leaf (withoutF x.1.1 x.2, List.set x.1.2 (Int.toNat x.2) (0 : Int))))) := by kernel_rfl
theorem cut_ok : CtrOK Tryd.prog 46 cutC :=
  fun_ok (G := cutG) (Λ := []) tysOK (ctrs_cons right_ok (ctrs_cons without_ok ctrs_nil)) mixed (by kernel_rfl) (by kernel_rfl) (by kernel_rfl) (by kernel_rfl) lp_nil fun (x : DCosts × Int) hw _ => by
    rw [congrFun cut_tree x]
    exact holds_val (d := cutC.fn x) (by kernel_rfl) (by simp [Tree.safe]; intro h; exact rightF_iff.1 h)
def rcutC : Ctr := cutC
def rcutG : List (Nat × Ctr) := [(99, rrightC), (110, rwithoutC)]
theorem rcutG_ok : CtrsOK Tryd.prog (fun f => lk f rcutG) := (ctrs_cons rright_ok (ctrs_cons rwithout_ok ctrs_nil))
theorem rcut_tree : (fun x : DCosts × Int => evFn (mkC tys rcutG []) (fnOf Tryd.prog 47) (resL rcutC.args x) rcutC.res) =
  (fun x => Tree.br (!rightF x.2) (Tree.leaf x.1) (Tree.need ((0 : Int) ≤ x.2 ∧ x.2 < (16 : Int)) (Tree.leaf (withoutF x.1.1 x.2, List.set x.1.2 (Int.toNat x.2) (0 : Int))))) := by kernel_rfl
theorem rcut_ok : CtrOK Tryd.prog 47 rcutC :=
  fun_ok (G := rcutG) (Λ := []) tysOK rcutG_ok mixed (by kernel_rfl) (by kernel_rfl) (by kernel_rfl) (by kernel_rfl) lp_nil fun (x : DCosts × Int) hw _ => by
    rw [congrFun rcut_tree x]
    exact holds_val (d := rcutC.fn x) (by kernel_rfl) (by simp [Tree.safe]; intro h; exact rightF_iff.1 h)
def ofC : Ctr := { args := [gCosts, .int .i64], res := [.int .u32], pre := none, fn := fun (x : DCosts × Int) => ofF x.1 x.2 }
def ofG : List (Nat × Ctr) := [(41, hasC)]
theorem of_tree : (fun x : DCosts × Int => evFn (mkC tys ofG []) (fnOf Tryd.prog 48) (resL ofC.args x) ofC.res) =
  (fun x => Tree.br (!hasF x.1.1 x.2) (Tree.leaf (4294967295 : Int)) (Tree.need ((0 : Int) ≤ x.2 ∧ x.2 < (16 : Int)) (Tree.leaf (List.getD x.1.2 (Int.toNat x.2) (0 : Int))))) := by kernel_rfl
theorem of_ok : CtrOK Tryd.prog 48 ofC :=
  fun_ok (G := ofG) (Λ := []) tysOK (ctrs_cons has_ok ctrs_nil) mixed (by kernel_rfl) (by kernel_rfl) (by kernel_rfl) (by kernel_rfl) lp_nil fun (x : DCosts × Int) hw _ => by
    rw [congrFun of_tree x]
    exact holds_val (d := ofC.fn x) (by kernel_rfl) (by simp [Tree.safe]; exact has_in)
def rofC : Ctr := { args := [gCosts, .int .i64], res := [.int .u32], pre := none, fn := fun (x : DCosts × Int) => ofF x.1 x.2 }
def rofG : List (Nat × Ctr) := [(111, rhasC)]
theorem rof_tree : (fun x : DCosts × Int => evFn (mkC tys rofG []) (fnOf Tryd.prog 49) (resL rofC.args x) rofC.res) =
  (fun x => Tree.br (!hasF x.1.1 x.2) (Tree.leaf (4294967295 : Int)) (Tree.need ((0 : Int) ≤ x.2 ∧ x.2 < (16 : Int)) (Tree.leaf (List.getD x.1.2 (Int.toNat x.2) (0 : Int))))) := by kernel_rfl
theorem rof_ok : CtrOK Tryd.prog 49 rofC :=
  fun_ok (G := rofG) (Λ := []) tysOK (ctrs_cons rhas_ok ctrs_nil) mixed (by kernel_rfl) (by kernel_rfl) (by kernel_rfl) (by kernel_rfl) lp_nil fun (x : DCosts × Int) hw _ => by
    rw [congrFun rof_tree x]
    exact holds_val (d := rofC.fn x) (by kernel_rfl) (by simp [Tree.safe]; exact has_in)
def upC : Ctr := { args := [gCosts], res := [.sl (.int .i64)], pre := none, fn := fun (x : DCosts) => elemsF x.1 16 }
def upG : List (Nat × Ctr) := [(102, listC)]
theorem up_tree : (fun x : DCosts => evFn (mkC tys upG []) (fnOf Tryd.prog 44) (resL upC.args x) upC.res) =
  (fun x => Tree.leaf (elemsF x.1 (16 : Nat))) := by kernel_rfl
theorem up_ok : CtrOK Tryd.prog 44 upC :=
  fun_ok (G := upG) (Λ := []) tysOK (ctrs_cons list_ok ctrs_nil) mixed (by kernel_rfl) (by kernel_rfl) (by kernel_rfl) (by kernel_rfl) lp_nil fun (x : DCosts) hw _ => by
    rw [congrFun up_tree x]
    exact holds_val (d := upC.fn x) (by kernel_rfl) (by simp [Tree.safe])
def rupC : Ctr := { args := [gCosts], res := [.sl (.int .i64)], pre := none, fn := fun (x : DCosts) => elemsF x.1 16 }
def rupG : List (Nat × Ctr) := [(105, rlistC)]
theorem rup_tree : (fun x : DCosts => evFn (mkC tys rupG []) (fnOf Tryd.prog 45) (resL rupC.args x) rupC.res) =
  (fun x => Tree.leaf (elemsF x.1 (16 : Nat))) := by kernel_rfl
theorem rup_ok : CtrOK Tryd.prog 45 rupC :=
  fun_ok (G := rupG) (Λ := []) tysOK (ctrs_cons rlist_ok ctrs_nil) mixed (by kernel_rfl) (by kernel_rfl) (by kernel_rfl) (by kernel_rfl) lp_nil fun (x : DCosts) hw _ => by
    rw [congrFun rup_tree x]
    exact holds_val (d := rupC.fn x) (by kernel_rfl) (by simp [Tree.safe])
end Go.Ev.D
/- A channel with room, used by one goroutine alone: the pieces of code beside it are told by the evaluator. -/
set_option linter.unusedVariables false
set_option linter.unusedSimpArgs false
namespace Go.Ev
open Go.Conc

section
variable {P : Program} {C : Ctx} {b : Frame}

/-- From the code on, in this frame. -/
def CodeTo (P : Program) (b : Frame) (c : Code) (Q : Exit → Act → World → Prop) (a : Act) (w : World) : Prop :=
  ∀ (k : List Item) (cs : List Frame), ∃ e a' w', Q e a' w' ∧ Arrives P (lone (b.at a (.code c :: k)) cs w) b k cs e a' w'
/-- From so many operations of a region on. -/
def RegTo (P : Program) (b : Frame) (ops : Array Oper) (l : List Nat) (Q : Exit → Act → World → Prop) (a : Act) (w : World) : Prop :=
  ∀ (k : List Item) (cs : List Frame), ∃ e a' w', Q e a' w' ∧ Arrives P (lone (b.at a (.inRegion ops l :: k)) cs w) b k cs e a' w'

variable {Q : Exit → Act → World → Prop} {a : Act} {w : World} {ops : Array Oper} {l : List Nat}

theorem CodeTo.of_wp {c : Code} (h : c.wp P Q a w) : CodeTo P b c Q a w := fun k cs => h b k cs
theorem CodeTo.mono {c : Code} {Q' : Exit → Act → World → Prop} (h : CodeTo P b c Q a w) (hq : ∀ e a w, Q e a w → Q' e a w) : CodeTo P b c Q' a w := fun k cs =>
  let ⟨e, a', w', h1, h2⟩ := h k cs; ⟨e, a', w', hq _ _ _ h1, h2⟩
theorem CodeTo.cond {c : Operand} {x y : Code} {t : Bool} (hc : a.eval c = .bool t) (h : CodeTo P b (if t then x else y) Q a w) : CodeTo P b (.cond c x y) Q a w := fun k cs =>
  let ⟨e, a', w', q, r⟩ := h k cs; ⟨e, a', w', q, .of_steps (.one (step_cond hc)) r⟩
theorem CodeTo.region {id : Nat} (h : RegTo P b ops (List.range ops.size) Q a w) : CodeTo P b (.region id ops false) Q a w := fun k cs =>
  let ⟨e, a', w', q, r⟩ := h k cs; ⟨e, a', w', q, .of_steps (.one step_region) r⟩
theorem CodeTo.skip (h : Q .normal a w) : CodeTo P b .skip Q a w := CodeTo.of_wp (wp_skip h)

/-- Codes one behind the other. -/
def LTo (P : Program) (b : Frame) : List Code → (Exit → Act → World → Prop) → Act → World → Prop
  | [], Q, a, w => Q .normal a w
  | c :: l, Q, a, w => CodeTo P b c (Exit.then (LTo P b l Q) Q) a w
def seqs : Code → List Code
  | .seq x y => seqs x ++ seqs y
  | c => [c]

theorem CodeTo.seq {x y : Code} (h : CodeTo P b x (Exit.then (CodeTo P b y Q) Q) a w) : CodeTo P b (.seq x y) Q a w := by
  intro k cs
  obtain ⟨e, a₁, w₁, hq, harr⟩ := h (.code y :: k) cs
  cases e with
  | normal =>
    obtain ⟨e, a₂, w₂, hq', harr'⟩ := hq k cs
    exact ⟨e, a₂, w₂, hq', .of_steps (.one step_seq) (.of_steps harr harr')⟩
  | exit id => exact ⟨_, a₁, w₁, hq, .of_steps (.one step_seq) (.pass (x := .code y) rfl (fun _ _ => .inl (by simp)) harr)⟩
  | goto id => exact ⟨_, a₁, w₁, hq, .of_steps (.one step_seq) (.pass (x := .code y) rfl (fun _ _ => .inl (by simp)) harr)⟩
  | ret => exact ⟨_, a₁, w₁, hq, .of_steps (.one step_seq) (.pass (x := .code y) rfl (fun _ _ => .inl (by simp)) harr)⟩
  | panic c => exact ⟨_, a₁, w₁, hq, .of_steps (.one step_seq) (.pass (x := .code y) rfl (fun _ _ => .inl (by simp)) harr)⟩
  | outgrown => exact ⟨_, a₁, w₁, hq, .of_steps (.one step_seq) (.pass (x := .code y) rfl (fun _ _ => .inl (by simp)) harr)⟩

theorem then_id {c : Code} (h : CodeTo P b c (Exit.then (LTo P b [] Q) Q) a w) : CodeTo P b c Q a w := h.mono fun e a w hq => by cases e <;> exact hq
theorem lto_append : ∀ {l r : List Code} {Q : Exit → Act → World → Prop} {a : Act} {w : World}, LTo P b (l ++ r) Q a w → LTo P b l (Exit.then (LTo P b r Q) Q) a w
  | [], _, _, _, _, h => h
  | c :: l, r, Q, a, w, h => CodeTo.mono (c := c) h fun e a' w' hq => by
      cases e with
      | normal => exact lto_append (l := l) hq
      | _ => exact hq
theorem LTo.mono : ∀ {l : List Code} {Q Q' : Exit → Act → World → Prop} {a : Act} {w : World}, LTo P b l Q a w → (∀ e a w, Q e a w → Q' e a w) → LTo P b l Q' a w
  | [], _, _, _, _, h, hq => hq _ _ _ h
  | c :: l, Q, Q', a, w, h, hq => CodeTo.mono (c := c) h fun e a' w' h' => by
      cases e with
      | normal => exact LTo.mono (l := l) h' hq
      | _ => exact hq _ _ _ h'
theorem CodeTo.seqs : ∀ {c : Code} {Q : Exit → Act → World → Prop} {a : Act} {w : World}, LTo P b (Ev.seqs c) Q a w → CodeTo P b c Q a w
  | .seq x y, Q, a, w, h => CodeTo.seq (CodeTo.mono (CodeTo.seqs (c := x) (lto_append h)) fun e a' w' hq => by
      cases e with
      | normal => exact CodeTo.seqs (c := y) hq
      | _ => exact hq)
  | .skip, _, _, _, h | .region .., _, _, _, h | .cond .., _, _, _, h | .block .., _, _, _, h | .loop _, _, _, _, h | .rangeFunc .., _, _, _, h | .exit _, _, _, _, h | .scope _, _, _, _, h | .label _, _, _, _, h | .goto _, _, _, _, h | .ret, _, _, _, h | .refuse _, _, _, _, h => then_id h

/-- Codes that the evaluator tells. -/
def evL (C : Ctx) : List Code → St → Tree (Ex × St)
  | [], s => .leaf (.normal, s)
  | c :: l, s => (ev C c s).bind fun p => match p.1 with
    | .normal => evL C l p.2
    | e => .leaf (e, p.2)

theorem evL_to (TOK : TysOK P C.τ) (GC : CtrsOK P C.Γ) (hmix : P.follows .mixedOrders = true) {R : Ref} {F : Ex × St → Prop} {rest : List Code} : ∀ (l : List Code) (s : St) (a : Act) (w : World), (∀ c ∈ l, LamOK C c) → (∀ c ∈ l, ∀ t ∈ writes c, t < a.tmps.size) → IsSt R s a w → (evL C l s).holds F →
    (∀ z s' a' w', F (z, s') → IsSt R s' a' w' → a'.tmps.size = a.tmps.size → a'.defers = a.defers → (∀ t, (∀ c ∈ l, t ∉ writes c) → a'.tmps.getD t undef = a.tmps.getD t undef) → match z with
      | .normal => LTo P b rest Q a' w'
      | z => Q z.to a' w') → LTo P b (l ++ rest) Q a w
  | [], s, a, w, _, _, hs, hF, hQ => hQ .normal s a w hF hs rfl rfl (fun _ _ => rfl)
  | c :: l, s, a, w, hl, hsz, hs, hF, hQ => by
    have hF' := holds_bind.1 hF
    have := (ev_ok TOK GC hmix c (hl c (by simp))).1 R s a w _ hs (hsz c (by simp)) hF'
    refine (CodeTo.of_wp this).mono ?_
    rintro e a1 w1 ⟨z, s1, rfl, h1, h2, h3⟩
    cases z with
    | normal =>
      exact evL_to TOK GC hmix l s1 a1 w1 (fun c' hc' => hl c' (by simp [hc'])) (fun c' hc' t ht => by rw [h3.size]; exact hsz c' (by simp [hc']) t ht) h2 h1
        (fun z s' a' w' f1 f2 f3 f4 f5 => hQ z s' a' w' f1 f2 (f3.trans h3.size) (f4.trans h3.defers) (fun t ht => (f5 t (fun c' hc' => ht c' (by simp [hc']))).trans (h3.tmps t (ht c (by simp)))))
    | exit id => exact hQ (.exit id) s1 a1 w1 h1 h2 h3.size h3.defers (fun t ht => h3.tmps t (ht c (by simp)))
    | ret => exact hQ .ret s1 a1 w1 h1 h2 h3.size h3.defers (fun t ht => h3.tmps t (ht c (by simp)))

/-! Regions, operation by operation -/

theorem RegTo.nil (h : Q .normal a w) : RegTo P b ops [] Q a w := fun k cs => ⟨.normal, a, w, h, .one step_region_end⟩
theorem RegTo.value {i : Nat} {o : Oper} {v : Value} {w' : World} (ho : ops[i]? = some o) (hg : o.guard = none) (hr : (execOp a.eval o).run P w = .ok (.value v) w') (h : RegTo P b ops l Q (a.put o.dst v) w') : RegTo P b ops (i :: l) Q a w := by
  intro k cs
  obtain ⟨e, a', w'', hq, harr⟩ := h k cs
  have hw : Region.wanted o (yielded ops a.tmps) = true := by simp [Region.wanted, hg]
  have hgo := stepG_op (P := P) (b := b) (k := k) (cs := cs) (w := w) (rest := l) ho hw
  have hfin : ∀ v, (b.at a (.inRegion ops (i :: l) :: k)).finish v = b.at (a.put o.dst v) (.inRegion ops l :: k) := by
    intro v; rw [Frame.finish_at, ho]; rfl
  refine ⟨e, a', w'', hq, .of_steps (.one (step_lone_go ?_)) harr⟩
  rw [hgo, ← hfin]
  simp [stepG.apply, hr]

theorem RegTo.send {i : Nat} {o : Oper} {x y : Operand} {c cap s r : Nat} {buf : Array Value} {tm : Bool} {v : Value} (ho : ops[i]? = some o) (hg : o.guard = none) (hb : b.kind ≠ .early) (hop : o.op = .send x y) (hx : a.eval x = .chan (some c)) (hy : a.eval y = v)
    (hc : w.heap[c]? = some (.chan cap buf false s r tm)) (hroom : buf.size < cap) (h : RegTo P b ops l Q (a.put o.dst undef) (w.setChan c cap (buf.push v) false (s + 1) r tm)) : RegTo P b ops (i :: l) Q a w := by
  intro k cs
  obtain ⟨e, a', w'', hq, harr⟩ := h k cs
  have hw : Region.wanted o (yielded ops a.tmps) = true := by simp [Region.wanted, hg]
  refine ⟨e, a', w'', hq, .of_steps (.one ?_) harr⟩
  have hst := step_lone_send_room (P := P) (fr := b.at a (.inRegion ops (i :: l) :: k)) (cs := cs) (w := w) (stepG_comm (cases := #[scase c v (.tuple #[])]) (blocking := true) (shape := .send) (w' := w) ho hw hb (by
    unfold execOp
    rw [hop]
    simp only [hx, hy]
    simp [scase])) hc hroom
  rw [lone_eq_solo, hst, Frame.finish_at, ho]
  rfl

theorem step_lone_select_recv {fr : Frame} {cs : List Frame} {w w₁ : World} {es : Array Event} {c cap s r : Nat} {buf : Array Value} {z : Value} {tm : Bool} (h : stepG P true (G fr cs) w = .comm (G fr cs) #[rcase c z] false .select w₁ es) (hc : w₁.heap[c]? = some (.chan cap buf false s r tm)) (hsome : 0 < buf.size) :
    step P (solo (G fr cs) w) = .next (solo (G (fr.finish (.tuple #[goInt 0, .bool true, buf.getD 0 undef])) cs) (w₁.setChan c cap (buf.extract 1 buf.size) false s (r + 1) tm)) := by
  have hp := partners_alone (c := c) true
  rw [step, stepT_solo rfl]
  simp [runT, solo, G, Array.swapAt!, Array.swapAt, h, GStep.es, communicate, ways, rcase, hc, hp, hsome, choose, Sem.run, Question.forced, bind, Sem.bind, pure, Goroutine.finishComm, commResult, World.setChan] at h ⊢

theorem RegTo.select_none {i : Nat} {o : Oper} {c cap s r : Nat} {tm : Bool} {z : Value} (ho : ops[i]? = some o) (hg : o.guard = none) (hb : b.kind ≠ .early) (hex : (execOp a.eval o).run P w = .ok (.comm #[rcase c z] false .select) w)
    (hc : w.heap[c]? = some (.chan cap #[] false s r tm)) (h : RegTo P b ops l Q (a.put o.dst (.tuple #[goInt (-1), .bool false, z])) w) : RegTo P b ops (i :: l) Q a w := by
  intro k cs
  obtain ⟨e, a', w'', hq, harr⟩ := h k cs
  have hw : Region.wanted o (yielded ops a.tmps) = true := by simp [Region.wanted, hg]
  refine ⟨e, a', w'', hq, .of_steps (.one ?_) harr⟩
  have hst := step_lone_select_default (P := P) (fr := b.at a (.inRegion ops (i :: l) :: k)) (cs := cs) (w := w) (stepG_comm (cases := #[rcase c z]) (blocking := false) (shape := .select) (w' := w) ho hw hb hex) hc
  rw [lone_eq_solo, hst, Frame.finish_at, ho]
  rfl
theorem RegTo.select_recv {i : Nat} {o : Oper} {c cap s r : Nat} {tm : Bool} {buf : Array Value} {z : Value} (ho : ops[i]? = some o) (hg : o.guard = none) (hb : b.kind ≠ .early) (hex : (execOp a.eval o).run P w = .ok (.comm #[rcase c z] false .select) w)
    (hc : w.heap[c]? = some (.chan cap buf false s r tm)) (hsome : 0 < buf.size) (h : RegTo P b ops l Q (a.put o.dst (.tuple #[goInt 0, .bool true, buf.getD 0 undef])) (w.setChan c cap (buf.extract 1 buf.size) false s (r + 1) tm)) : RegTo P b ops (i :: l) Q a w := by
  intro k cs
  obtain ⟨e, a', w'', hq, harr⟩ := h k cs
  have hw : Region.wanted o (yielded ops a.tmps) = true := by simp [Region.wanted, hg]
  refine ⟨e, a', w'', hq, .of_steps (.one ?_) harr⟩
  have hst := step_lone_select_recv (P := P) (fr := b.at a (.inRegion ops (i :: l) :: k)) (cs := cs) (w := w) (stepG_comm (cases := #[rcase c z]) (blocking := false) (shape := .select) (w' := w) ho hw hb hex) hc hsome
  rw [lone_eq_solo, hst, Frame.finish_at, ho]
  rfl

/-! The frame of a call -/
theorem calls_of_to {f : FuncId} {fn : Func} {c : Code} {args : Array Value} {R : Ending → World → Prop} (hf : P.funcs[f]? = some fn) (hb : fn.body = some c)
    (h : CodeTo P { (default : Frame) with fn := f, kind := .normal } c (fun e a' w' => (e = .normal ∨ e = .ret) ∧ a'.defers = [] ∧ ∃ v, (results fn a'.tmps).run P w' = .ok v w' ∧ R (.returned v) w') { tmps := args ++ Array.replicate (fn.ntmps - args.size) undef, defers := [] } w) : Calls P f args w R := by
  intro cs
  have henter : Frame.enter P f args .normal = ({ (default : Frame) with fn := f, kind := .normal } : Frame).at { tmps := args ++ Array.replicate (fn.ntmps - args.size) undef, defers := [] } [.code c] := by
    simp [Frame.enter, Frame.at, hf, hb]
  obtain ⟨e, a', w', ⟨he, hd, v, hr, hR⟩, harr⟩ := h [] cs
  rw [← henter] at harr
  rcases he with rfl | rfl
  · exact ⟨.returned v, w', _, hR, Steps.trans harr (.one step_end), rfl, rfl, hd, rfl, fn, hf, hr⟩
  · obtain ⟨todo, hs⟩ := harr
    exact ⟨.returned v, w', _, hR, hs, rfl, rfl, hd, rfl, fn, hf, hr⟩

/-! Another world to start from, but for one block -/
theorem IsSt.frame {R : Ref} {s : St} {a : Act} {w : World} (h : IsSt R s a w) {k : Nat} (hk : k < R.w0.heap.size) (ho : ¬ R.own k) : w.heap[k]? = R.w0.heap[k]? := by
  obtain ⟨M, rfl, _, I, _⟩ := h
  exact I.frame k hk ho
theorem IsSt.grow {R : Ref} {s : St} {a : Act} {w : World} (h : IsSt R s a w) : R.w0.heap.size ≤ w.heap.size := by
  obtain ⟨M, rfl, _, I, _⟩ := h
  exact I.size

theorem rebase {R : Ref} {s : St} {a : Act} {w w' : World} (h : IsSt R s a w) (c : Nat) (hos : w'.os = w.os) (htape : w'.tape = w.tape) (hout : w'.output = w.output) (hsz : w.heap.size ≤ w'.heap.size)
    (hcell : ∀ k, k < w.heap.size → k ≠ c → w'.heap[k]? = w.heap[k]?) (hnew : R.w0.heap.size ≤ c) (hchan : ∀ cs t fr, w.heap[c]? ≠ some (.cells cs t fr)) (hit : ∀ y p, w.heap[c]? ≠ some (.stringIter y p)) (hchan' : ∀ cs t fr, w'.heap[c]? ≠ some (.cells cs t fr)) :
    ∃ R' : Ref, R'.w0 = w' ∧ ¬ R'.own c ∧ IsSt R' s a w' ∧ ∀ s2 a2 w2, IsSt R' s2 a2 w2 → IsSt R s2 a2 w2 := by
  obtain ⟨M, rfl, hb, I, hr⟩ := h
  have hblk' : ∀ b d B, lk b M.bs = some (d, B) → ∀ k, blkOf (M.β b) = some k → k ≠ c := by
    intro b d B hB k hk hkc
    subst hkc
    have hRB := I.boxes b d B hB
    cases B with
    | var g x =>
      obtain ⟨blk, cs, e, h1, h2, _⟩ := hRB
      rw [h1] at hk
      simp [blkOf] at hk
      subst hk
      exact hchan _ _ _ h2
    | row e g xs fz =>
      obtain ⟨cs, ho, _⟩ := hRB
      rcases ho.2 with ⟨hv, _⟩ | ⟨g', cap, cur, hv, _, h2, _⟩
      · rw [hv] at hk; simp [blkOf] at hk
      · rw [hv] at hk
        simp [blkOf] at hk
        subst hk
        exact hchan _ _ _ h2
    | iter y pos =>
      obtain ⟨blk, h1, h2, _⟩ := hRB
      rw [h1] at hk
      simp [blkOf] at hk
      subst hk
      exact hit _ _ h2
  have nocell : ∀ (v : World) (o : Nat), (∀ cs t fr, v.heap[c]? ≠ some (.cells cs t fr)) → v.cell? ⟨c, o, none⟩ = none := by
    intro v o hv
    unfold World.cell?
    split
    · rename_i cc t fr hcc
      exact absurd hcc (hv _ _ _)
    · rfl
  have hk : Keeps M.S M.S M.w w' := by
    intro k o hS
    refine ⟨hS, ?_⟩
    by_cases hkc : k = c
    · subst hkc
      rw [nocell _ o hchan, nocell _ o hchan']
    · exact cell_of_heap (hcell k (I.here k o hS).2 hkc)
  have ref : ∀ {R1 R2 : Ref} {v : Value} {B : Box} {W : World} {S : Stab}, (∀ blk, R1.new blk → blkOf v = some blk → R2.new blk) → RelB R1 W S v B → RelB R2 W S v B := by
    intro R1 R2 v B W S hn hB
    cases B with
    | var g x =>
      obtain ⟨blk, cs, e, h1, h2, h3, h4, h5⟩ := hB
      exact ⟨blk, cs, e, h1, h2, h3, h4, hn blk h5 (by rw [h1]; rfl)⟩
    | row e g xs fz =>
      obtain ⟨cs, h1, h2, h3, h4, h5, h6⟩ := hB
      exact ⟨cs, h1, h2, h3, h4, h5, fun blk hb => ⟨hn blk (h6 blk hb).1 hb, (h6 blk hb).2⟩⟩
    | iter y pos =>
      obtain ⟨blk, h1, h2, h3, h4, h5⟩ := hB
      exact ⟨blk, h1, h2, h3, h4, hn blk h5 (by rw [h1]; rfl)⟩
  have st : Step M { M with w := w' } (fun _ => False) := ⟨hk, fun b d B h _ => ⟨d, B, h, rfl, Box.le_refl B⟩⟩
  refine ⟨⟨w', fun k => R.new k ∧ k ≠ c, M.S, (R.tab.keeps I.old).keeps hk⟩, rfl, fun h => h.2 rfl, ?_, ?_⟩
  · refine ⟨{ M with w := w' }, rfl, hb, ⟨rfl, rfl, rfl, Nat.le_refl _, fun _ _ _ => rfl, Keeps.refl _ _, fun b o hs => ⟨.inl hs, Nat.lt_of_lt_of_le (I.here b o hs).2 hsz⟩, fun b d B hB => ?_, I.sep⟩, fun t => (hr t).step st (fun b hb => hb.elim)⟩
    have hRB := I.boxes b d B hB
    have hm := hRB.move hk (fun blk hblk => hcell blk (hRB.lt blk hblk) (hblk' b d B hB blk hblk)) (fun blk o hblk hs => hs)
    exact ref (fun blk hn hv => .inr ⟨hn, hblk' b d B hB blk hv⟩) hm
  · rintro s2 a2 w2 ⟨M2, rfl, hb2, I2, hr2⟩
    refine ⟨M2, rfl, hb2, ⟨I2.os.trans (hos.trans I.os), I2.tape.trans (htape.trans I.tape), I2.output.trans (hout.trans I.output), Nat.le_trans I.size (Nat.le_trans hsz I2.size), ?_, I.old.trans (hk.trans I2.old), ?_, ?_, I2.sep⟩, hr2⟩
    · intro k h1 h2
      have hkc : k ≠ c := by omega
      have hno : ¬ (R.new k ∧ k ≠ c) := by
        rintro ⟨h3 | h3, _⟩
        · omega
        · exact h2 h3
      have h4 : k < M.w.heap.size := Nat.lt_of_lt_of_le h1 I.size
      exact (I2.frame k (Nat.lt_of_lt_of_le h4 hsz) hno).trans ((hcell k h4 hkc).trans (I.frame k h1 h2))
    · intro b o hs
      obtain ⟨h1, h2⟩ := I2.here b o hs
      refine ⟨?_, h2⟩
      rcases h1 with h1 | h1 | h1
      · exact (I.here b o h1).1
      · exact .inr (.inl (Nat.le_trans (Nat.le_trans I.size hsz) h1))
      · exact .inr h1.1
    · intro b d B hB
      refine ref (fun blk hn _ => ?_) (I2.boxes b d B hB)
      rcases hn with h1 | h1
      · exact .inl (Nat.le_trans (Nat.le_trans I.size hsz) h1)
      · exact h1.1

/-! A call's beginning, and its end -/
theorem start_st {w : World} {S : Stab} {us : List Value} {gs : List GTy} {x : dens gs} (hS : ∀ b o, S b o → b < w.heap.size) (hT : Tab S w) (henc : EncD w S gs x us) (n : Nat) :
    IsSt ⟨w, fun _ => False, S, hT⟩ { tmps := number 0 (resL gs x), boxes := [] } { tmps := us.toArray ++ Array.replicate (n - us.toArray.size) undef, defers := [] } w := by
  let R : Ref := ⟨w, fun _ => False, S, hT⟩
  let M : Mem := ⟨w, S, fun _ => undef, []⟩
  have I : InvM R M := ⟨rfl, rfl, rfl, Nat.le_refl _, fun _ _ _ => rfl, Keeps.refl _ _, fun b o hs => ⟨.inl hs, hS b o hs⟩, fun b d B hb => by simp [M, lk] at hb, fun b c d B d' B' _ hb => by simp [M, lk] at hb⟩
  have hrl := resL_rel (M := M) (gs := gs) (x := x) (us := us) henc
  refine ⟨M, rfl, rfl, I, fun t => ?_⟩
  show RelV M ((lk t (number 0 (resL gs x))).getD .undef) _
  rw [lk_number]
  simp only [Nat.zero_le, if_true, Nat.sub_zero]
  cases hv : (resL gs x)[t]? with
  | none => simp [RelV]
  | some v =>
    obtain ⟨u, h1, h2⟩ := hrl.get t hv
    have hlt := (List.getElem?_eq_some_iff.1 h1).1
    have : (us.toArray ++ Array.replicate (n - us.toArray.size) undef).getD t undef = u := by
      simp only [Array.getD_eq_getD_getElem?]
      rw [Array.getElem?_append_left (by simpa using hlt)]
      simp [h1]
    rw [this]
    simpa using h2

theorem finish_st (TOK : TysOK P C.τ) {w w' : World} {S : Stab} {hT : Tab S w} {s' : St} {a' : Act} {fn : Func} {res : List GTy} {y : dens res} (hs : IsSt ⟨w, fun _ => False, S, hT⟩ s' a' w') (hF : (evRes C fn res (.normal, s')).holds (fun z => z = y)) :
    ∃ v, (results fn a'.tmps).run P w' = .ok v w' ∧ ∃ v', Ending.returned v = Ending.returned v' ∧ Grows w w' ∧ ∃ N : Stab, (∀ b o, N b o → w.heap.size ≤ b ∧ b < w'.heap.size) ∧ RelRes w' (fun b o => S b o ∨ N b o) res y v' := by
  obtain ⟨M', rfl, hb', I', hr'⟩ := hs
  simp only [evRes] at hF
  split at hF
  · exact hF.elim
  rename_i aas has
  split at hF
  · exact hF.elim
  rename_i z ws htk
  simp only [Tree.holds] at hF
  subst hF
  obtain ⟨us', q1, q2⟩ := resArgs_sound TOK I' hb' hr' has
  obtain ⟨_, S', fz, henc'⟩ := takes_sound I' q2 htk
  refine ⟨_, results_run q1, _, rfl, ⟨I'.os, I'.tape, I'.output, I'.size, fun k hk => I'.frame k hk id⟩, fun b o => S' b o ∧ w.heap.size ≤ b, fun b o hN => ⟨hN.2, (fz.inv.here b o hN.1).2⟩, us', ?_, by rcases us' with _ | ⟨u, _ | ⟨v, us⟩⟩ <;> rfl⟩
  refine henc'.keeps (fun b o hs => ⟨?_, rfl⟩)
  rcases (fz.inv.here b o hs).1 with h3 | h3 | h3
  · exact .inl h3
  · exact .inr ⟨hs, h3⟩
  · exact h3.elim

/-! Slots that nothing is known of -/
theorem IsSt.put_undef {R : Ref} {s : St} {d : Nat} {v : Value} (h : IsSt R s a w) (hd : s.look d = .undef) (hsz : d < a.tmps.size) : IsSt R s (a.put (some d) v) w := by
  obtain ⟨M, hM, hb, I, hr⟩ := h
  refine ⟨M, hM, hb, I, fun t => ?_⟩
  rw [put_getD a (some d) v t (fun k hk => by cases hk; exact hsz)]
  split
  · rename_i ht
    cases ht
    rw [hd]; simp [RelV]
  · exact hr t
theorem IsSt.put_known {R : Ref} {s : St} {d : Nat} {v : Value} {av : AV} (h : IsSt R s a w) (hv : ∀ M, RelV M av v) (hsz : d < a.tmps.size) : IsSt R (s.put d av) (a.put (some d) v) w := by
  obtain ⟨M, hM, hb, I, hr⟩ := h
  refine ⟨M, hM, hb, I, fun t => ?_⟩
  rw [put_getD a (some d) v t (fun k hk => by cases hk; exact hsz), look_put]
  by_cases ht : t = d
  · subst ht
    simp [hv]
  · rw [if_neg ht, if_neg (fun e => ht (by cases e; rfl))]
    exact hr t
theorem IsSt.grows {R : Ref} {s : St} {w' : World} (h : IsSt R s a w) (g : Grows w w') : IsSt R s a w' := by
  obtain ⟨M, rfl, hb, I, hr⟩ := h
  obtain ⟨I2, st⟩ := I.grow g
  exact ⟨{ M with w := w' }, rfl, hb, I2, fun t => (hr t).steps st⟩
theorem put_same {d t : Nat} {v : Value} (hsz : d < a.tmps.size) (h : t ≠ d) : (a.put (some d) v).tmps.getD t undef = a.tmps.getD t undef := by
  rw [put_getD a (some d) v t (fun k hk => by cases hk; exact hsz), if_neg (fun e => h (by cases e; rfl))]
theorem put_at {d : Nat} {v : Value} (hsz : d < a.tmps.size) : (a.put (some d) v).tmps.getD d undef = v := by
  rw [put_getD a (some d) v d (fun k hk => by cases hk; exact hsz), if_pos rfl]

theorem RegTo.yields {i : Nat} {o : Oper} {K : Value → World → Prop} (ho : ops[i]? = some o) (hg : o.guard = none) (h : Yields P a.eval o w K) (hk : ∀ v w', K v w' → RegTo P b ops l Q (a.put o.dst v) w') : RegTo P b ops (i :: l) Q a w := by
  intro k cs
  have hw : Region.wanted o (yielded ops a.tmps) = true := by simp [Region.wanted, hg]
  have hgo := stepG_op (P := P) (b := b) (k := k) (cs := cs) (w := w) (rest := l) ho hw
  have hfin : ∀ v, (b.at a (.inRegion ops (i :: l) :: k)).finish v = b.at (a.put o.dst v) (.inRegion ops l :: k) := by
    intro v; rw [Frame.finish_at, ho]; rfl
  unfold Yields at h
  split at h
  · rename_i v w' hr
    obtain ⟨e, a', w'', hq, harr⟩ := hk v w' h k cs
    refine ⟨e, a', w'', hq, .of_steps (.one (step_lone_go ?_)) harr⟩
    rw [hgo, ← hfin]; simp [stepG.apply, hr]
  · rename_i w' hr
    obtain ⟨e, a', w'', hq, harr⟩ := hk undef w' h k cs
    refine ⟨e, a', w'', hq, .of_steps (.one (step_lone_go ?_)) harr⟩
    rw [hgo, ← hfin]; simp [stepG.apply, hr]
  · rename_i f args w' hr
    obtain ⟨e, w'', fr, ⟨v, rfl, hv⟩, hsteps, _, hleave⟩ := h (b.at a (.inRegion ops (i :: l) :: k) :: cs)
    have henter : step P (lone (b.at a (.inRegion ops (i :: l) :: k)) cs w) = .next (lone (Frame.enter P f args .normal) (b.at a (.inRegion ops (i :: l) :: k) :: cs) w') :=
      step_lone_go (by rw [hgo]; simp [stepG.apply, hr, Frame.at])
    obtain ⟨e, a', w₃, hq, harr⟩ := hk v w'' hv k cs
    refine ⟨e, a', w₃, hq, .of_steps (.head henter (hsteps.trans (.one ?_))) harr⟩
    rw [← hfin]; exact step_leave_returned hleave
  · exact h.elim

theorem RegTo.op (TOK : TysOK P C.τ) (GOK : CtrsOK P C.Γ) {R : Ref} {s : St} {i : Nat} {o : Oper} {e : Eff} (ho : ops[i]? = some o) (hg : o.guard = none) (hs : IsSt R s a w) (he : opEff C.τ C.Γ (o.dst.getD 0) o (s.args o) = some e) (hn : e.ok) (hd : ∀ k, o.dst = some k → k < a.tmps.size)
    (hnext : ∀ a' w', IsSt R (s.after o e) a' w' → Apart (fun t => o.dst = some t) s a (s.after o e) a' → RegTo P b ops l Q a' w') : RegTo P b ops (i :: l) Q a w := by
  obtain ⟨M, hM, hb, I, hr⟩ := hs
  rw [args_eq s o hb] at he
  have := opEff_sound TOK GOK I (eval_func a) (opRel_of (R.tab.keeps I.old) hr o) he hn
  rw [hM] at this
  refine RegTo.yields ho hg this (fun v w' hv => ?_)
  obtain ⟨h1, h2⟩ := IsSt.after hM hb hr hd hv
  exact hnext _ _ h1 h2

/-- A piece, read back: what is answered, or the slots of a shape. -/
def pieceT (C : Ctx) (fn : Func) (res : List GTy) (ts : List (Nat × Sh)) (bs : List (Nat × BSh)) (l : List Code) (s : St) : Tree (Option (dens res) × Option (ShT ts × ShB bs)) :=
  (evL C l s).bind fun p => match p.1 with
    | .ret => (evRes C fn res (.normal, p.2)).bind fun y => .leaf (some y, none)
    | .normal => match restrict { prom := [], keep := ts.map (·.1), boxes := bs.map (·.1), sum := fun _ => .stuck } p.2 with
      | none => .stuck
      | some s' => .leaf (none, unS ts bs s')
    | .exit _ => .stuck

theorem piece_to (TOK : TysOK P C.τ) (GC : CtrsOK P C.Γ) (hmix : P.follows .mixedOrders = true) {R : Ref} {fn : Func} {res : List GTy} {ts : List (Nat × Sh)} {bs : List (Nat × BSh)} {rest l : List Code} {s : St} {G : Option (dens res) × Option (ShT ts × ShB bs) → Prop} (hl : ∀ c ∈ l, LamOK C c) (hsz : ∀ c ∈ l, ∀ t ∈ writes c, t < a.tmps.size) (hs : IsSt R s a w) (hG : (pieceT C fn res ts bs l s).holds G)
    (hret : ∀ y s' a' w', G (some y, none) → IsSt R s' a' w' → a'.defers = a.defers → (evRes C fn res (.normal, s')).holds (fun z => z = y) → Q .ret a' w')
    (hgo : ∀ x a' w', G (none, some x) → IsSt R (mkS ts bs x) a' w' → a'.tmps.size = a.tmps.size → a'.defers = a.defers → (∀ t, (∀ c ∈ l, t ∉ writes c) → a'.tmps.getD t undef = a.tmps.getD t undef) → LTo P b rest Q a' w')
    (hbad : ¬ G (none, none)) : LTo P b (l ++ rest) Q a w := by
  refine evL_to TOK GC hmix l s a w hl hsz hs (holds_bind.1 hG) ?_
  intro z s' a' w' hF h1 h2 h3 h4
  cases z with
  | normal =>
    simp only at hF
    split at hF
    · exact hF.elim
    · rename_i s'' hr
      have h5 := h1.restr (restrict_spec hr)
      simp only [Tree.holds] at hF
      cases hu : unS ts bs s'' with
      | none => rw [hu] at hF; exact absurd hF hbad
      | some x =>
        rw [hu] at hF
        have := unS_eq hu
        subst this
        exact hgo x a' w' hF h5 h2 h3 h4
  | ret =>
    have hF' := holds_bind.1 hF
    have key : ∀ (t : Tree (dens res)), t = evRes C fn res (.normal, s') → t.holds (fun y => (Tree.leaf (some y, none)).holds G) → Q .ret a' w' := by
      intro t ht hh
      cases t with
      | leaf y => exact hret y s' a' w' hh h1 h3 (by rw [← ht]; rfl)
      | stuck => exact hh.elim
      | br c t e =>
        exfalso
        simp only [evRes] at ht
        split at ht
        · cases ht
        · split at ht <;> cases ht
      | need p t =>
        exfalso
        simp only [evRes] at ht
        split at ht
        · cases ht
        · split at ht <;> cases ht
    exact key _ rfl hF'
  | exit id => exact hF.elim

/-! A channel kept beside the evaluator -/
theorem IsSt.bool {R : Ref} {s : St} {d : Nat} {t : Bool} (h : IsSt R s a w) (hl : s.look d = .val .bool t) : a.eval (.tmp d) = .bool t := by
  obtain ⟨M, _, _, _, hr⟩ := h
  have := hr d
  rw [hl] at this
  obtain ⟨cs, h1, h2⟩ := this
  have h3 : cs = [.bool t] := h1
  subst h3
  exact h2

/-- In these slots this is known; slot d holds a channel, and what the channel is. -/
structure Hd (R0 : Ref) (c : Nat) (obj : Obj) (n d : Nat) (s : St) (a : Act) (w : World) : Prop where
  new : R0.w0.heap.size ≤ c
  size : a.tmps.size = n
  defers : a.defers = []
  slot : a.tmps.getD d undef = .chan (some c)
  st : ∃ R : Ref, R.w0.heap[c]? = some obj ∧ ¬ R.own c ∧ IsSt R s a w ∧ ∀ s2 a2 w2, IsSt R s2 a2 w2 → IsSt R0 s2 a2 w2

variable {R0 : Ref} {c : Nat} {obj : Obj} {n d : Nat} {s : St}

theorem Hd.heap (h : Hd R0 c obj n d s a w) : w.heap[c]? = some obj := by
  obtain ⟨R, h1, h2, h3, _⟩ := h.st
  rw [h3.frame (Array.getElem?_eq_some_iff.1 h1).1 h2]
  exact h1
theorem Hd.old (h : Hd R0 c obj n d s a w) : IsSt R0 s a w := by
  obtain ⟨R, _, _, h3, h4⟩ := h.st
  exact h4 _ _ _ h3
theorem Hd.restr {L : LoopSpec} {s' : St} (h : Hd R0 c obj n d s a w) (hr : restrict L s = some s') : Hd R0 c obj n d s' a w := by
  obtain ⟨R, h1, h2, h3, h4⟩ := h.st
  exact ⟨h.new, h.size, h.defers, h.slot, R, h1, h2, h3.restr (restrict_spec hr), h4⟩
theorem Hd.undef {k : Nat} {v : Value} (h : Hd R0 c obj n d s a w) (hl : s.look k = .undef) (hk : k < n) (hd : d ≠ k) : Hd R0 c obj n d s (a.put (some k) v) w := by
  obtain ⟨R, h1, h2, h3, h4⟩ := h.st
  have hk' : k < a.tmps.size := by rw [h.size]; exact hk
  exact ⟨h.new, (put_size _ _ _).trans h.size, (put_defers' _ _ _).trans h.defers, (put_same hk' hd).trans h.slot, R, h1, h2, h3.put_undef hl hk', h4⟩
theorem Hd.known {k : Nat} {v : Value} {av : AV} (h : Hd R0 c obj n d s a w) (hv : ∀ M, RelV M av v) (hk : k < n) (hd : d ≠ k) : Hd R0 c obj n d (s.put k av) (a.put (some k) v) w := by
  obtain ⟨R, h1, h2, h3, h4⟩ := h.st
  have hk' : k < a.tmps.size := by rw [h.size]; exact hk
  exact ⟨h.new, (put_size _ _ _).trans h.size, (put_defers' _ _ _).trans h.defers, (put_same hk' hd).trans h.slot, R, h1, h2, h3.put_known hv hk', h4⟩
theorem Hd.set {cap cap' sn rn sn' rn' : Nat} {buf buf' : Array Value} {cl cl' tm tm' : Bool} (h : Hd R0 c (.chan cap buf cl sn rn tm) n d s a w) : Hd R0 c (.chan cap' buf' cl' sn' rn' tm') n d s a (w.setChan c cap' buf' cl' sn' rn' tm') := by
  have hc := h.heap
  have hlt : c < w.heap.size := (Array.getElem?_eq_some_iff.1 hc).1
  have hs := heap_setChan w c cap' buf' cl' sn' rn' tm' hlt
  obtain ⟨R', h1, h2, h3, h4⟩ := rebase (w' := w.setChan c cap' buf' cl' sn' rn' tm') h.old c rfl rfl rfl (by rw [size_setChan]; exact Nat.le_refl _) (fun k _ hk => by simp [World.setChan, Array.getElem?_setIfInBounds_ne (Ne.symm hk)]) h.new (fun _ _ _ => by rw [hc]; intro e; cases e) (fun _ _ => by rw [hc]; intro e; cases e) (fun _ _ _ => by rw [hs]; intro e; cases e)
  exact ⟨h.new, h.size, h.defers, h.slot, R', by rw [h1]; exact hs, h2, h3, h4⟩
theorem at_make {cap : Nat} {buf : Array Value} {cl tm : Bool} {sn rn : Nat} (h : IsSt R0 s a (w.alloc (.chan cap buf cl sn rn tm))) (hw : R0.w0.heap.size ≤ w.heap.size) (hs : a.tmps.size = n) (hd : a.defers = []) (hc : a.tmps.getD d undef = .chan (some w.heap.size)) :
    Hd R0 w.heap.size (.chan cap buf cl sn rn tm) n d s a (w.alloc (.chan cap buf cl sn rn tm)) := by
  have hn := heap_alloc_new w (.chan cap buf cl sn rn tm)
  obtain ⟨R', h1, h2, h3, h4⟩ := rebase (w' := w.alloc (.chan cap buf cl sn rn tm)) h w.heap.size rfl rfl rfl (Nat.le_refl _) (fun _ _ _ => rfl) hw (fun _ _ _ => by rw [hn]; intro e; cases e) (fun _ _ => by rw [hn]; intro e; cases e) (fun _ _ _ => by rw [hn]; intro e; cases e)
  exact ⟨hw, hs, hd, hc, R', by rw [h1]; exact hn, h2, h3, h4⟩
theorem Hd.op (TOK : TysOK P C.τ) (GOK : CtrsOK P C.Γ) {i : Nat} {o : Oper} {e : Eff} (h : Hd R0 c obj n d s a w) (ho : ops[i]? = some o) (hg : o.guard = none) (he : opEff C.τ C.Γ (o.dst.getD 0) o (s.args o) = some e) (hn : e.ok) (hk : ∀ k, o.dst = some k → k < n ∧ k ≠ d)
    (hnext : ∀ a' w', Hd R0 c obj n d (s.after o e) a' w' → (∀ t, o.dst ≠ some t → a'.tmps.getD t Go.undef = a.tmps.getD t Go.undef) → RegTo P b ops l Q a' w') : RegTo P b ops (i :: l) Q a w := by
  obtain ⟨R, h1, h2, h3, h4⟩ := h.st
  refine RegTo.op TOK GOK ho hg h3 he hn (fun k hk' => by rw [h.size]; exact (hk k hk').1) fun a' w' h5 h6 => hnext a' w' ⟨h.new, h6.size.trans h.size, h6.defers.trans h.defers, (h6.tmps d (fun hd => (hk d hd).2 rfl)).trans h.slot, R, h1, h2, h5, h4⟩ (fun t ht => h6.tmps t ht)
theorem Hd.move {i k : Nat} {o : Oper} (h : Hd R0 c obj n d s a w) (ho : ops[i]? = some o) (hg : o.guard = none) (hop : o.op = .move (.tmp d)) (hdst : o.dst = some k) (hl : s.look k = .undef) (hk : k < n) (hd : d ≠ k)
    (hnext : ∀ a', Hd R0 c obj n d s a' w → a'.tmps.getD k Go.undef = .chan (some c) → RegTo P b ops l Q a' w) : RegTo P b ops (i :: l) Q a w := by
  refine RegTo.value (v := .chan (some c)) (w' := w) ho hg ?_ ?_
  · have he : a.eval (.tmp d) = .chan (some c) := h.slot
    unfold execOp
    rw [hop]
    simp only [he]
    rfl
  · rw [hdst]
    exact hnext _ (h.undef hl hk hd) (put_at (by rw [h.size]; exact hk))
theorem Hd.send {i k cap sn rn : Nat} {buf : Array Value} {tm : Bool} {y : Operand} {o : Oper} (h : Hd R0 c (.chan cap buf false sn rn tm) n d s a w) (ho : ops[i]? = some o) (hg : o.guard = none) (hb : b.kind ≠ .early) (hop : o.op = .send (.tmp k) y) (hdst : o.dst = none) (hx : a.tmps.getD k Go.undef = .chan (some c)) (hroom : buf.size < cap)
    (hnext : ∀ v w', Hd R0 c (.chan cap (buf.push v) false (sn + 1) rn tm) n d s a w' → RegTo P b ops l Q a w') : RegTo P b ops (i :: l) Q a w := by
  refine RegTo.send ho hg hb hop hx rfl h.heap hroom ?_
  rw [hdst]
  exact hnext _ _ h.set
theorem Hd.select {i k x et cap sn rn : Nat} {buf : Array Value} {tm : Bool} {z : Value} {o : Oper} (h : Hd R0 c (.chan cap buf false sn rn tm) n d s a w) (ho : ops[i]? = some o) (hg : o.guard = none) (hb : b.kind ≠ .early) (hop : o.op = .select #[⟨.tmp x, none, et⟩] false) (hdst : o.dst = some k) (hx : a.tmps.getD x Go.undef = .chan (some c))
    (hz : (zeroValue et).run P w = .ok z w) (hk : k < n) (hd : d ≠ k)
    (hnext : ∀ buf' rn' a' w', Hd R0 c (.chan cap buf' false sn rn' tm) n d (s.put k (.tup [.val (.int .i64) (if buf.isEmpty = true then (-1 : Int) else 0), .undef, .undef])) a' w' → RegTo P b ops l Q a' w') : RegTo P b ops (i :: l) Q a w := by
  have hex : (execOp a.eval o).run P w = .ok (.comm #[rcase c z] false .select) w := by
    have he : a.eval (.tmp x) = .chan (some c) := hx
    unfold execOp
    rw [hop]
    simp [he, hz, rcase]
  have rel : ∀ (m : Int) (e1 e2 : Value) (M : Mem), IntKind.i64.has m → RelV M (.tup [.val (.int .i64) m, .undef, .undef]) (.tuple #[.int .i64 m, e1, e2]) := by
    intro m e1 e2 M hm
    exact ⟨_, rfl, ⟨[.int .i64 m], ⟨rfl, hm⟩, rfl⟩, trivial, trivial, trivial⟩
  by_cases he : buf = #[]
  · subst he
    refine RegTo.select_none ho hg hb hex h.heap ?_
    rw [hdst]
    exact hnext #[] rn _ _ (h.known (fun M => rel (-1) _ _ M (by simp [IntKind.has, IntKind.min, IntKind.max, IntKind.bits, IntKind.signed])) hk hd)
  · have hs : 0 < buf.size := Nat.pos_of_ne_zero (fun e => he (Array.size_eq_zero_iff.1 e))
    refine RegTo.select_recv ho hg hb hex h.heap hs ?_
    rw [hdst]
    have hm : (if buf.isEmpty = true then (-1 : Int) else 0) = 0 := by simp [he]
    rw [hm] at hnext
    exact hnext _ _ _ _ (Hd.known h.set (fun M => rel 0 _ _ M (by simp [IntKind.has, IntKind.min, IntKind.max, IntKind.bits, IntKind.signed])) hk hd)
def calmL (n d : Nat) (cs : List Code) : Bool := cs.all fun x => (loopsOf x).isEmpty && (writes x).all fun t => Nat.blt t n && !(Nat.beq t d)
theorem calmL_lam {cs : List Code} (h : calmL n d cs = true) : ∀ x ∈ cs, LamOK C x := fun x hx => by
  unfold calmL at h
  rw [List.all_eq_true] at h
  have h1 := h x hx
  rw [Bool.and_eq_true] at h1
  have h2 : loopsOf x = [] := by simpa using h1.1
  exact lam_of x fun id body hm => by rw [h2] at hm; cases hm
theorem calmL_wr {cs : List Code} (h : calmL n d cs = true) : ∀ x ∈ cs, ∀ t ∈ writes x, t < n ∧ t ≠ d := fun x hx t ht => by
  unfold calmL at h
  rw [List.all_eq_true] at h
  have h1 := h x hx
  rw [Bool.and_eq_true, List.all_eq_true] at h1
  have h2 := h1.2 t ht
  rw [Bool.and_eq_true, Nat.blt_eq] at h2
  exact ⟨h2.1, fun e => by subst e; simp at h2⟩
theorem Hd.piece (TOK : TysOK P C.τ) (GC : CtrsOK P C.Γ) (hmix : P.follows .mixedOrders = true) {fn : Func} {res : List GTy} {ts : List (Nat × Sh)} {bs : List (Nat × BSh)} {rest cs : List Code} {G : Option (dens res) × Option (ShT ts × ShB bs) → Prop} (h : Hd R0 c obj n d s a w) (hcalm : calmL n d cs = true) (hG : (pieceT C fn res ts bs cs s).holds G)
    (hret : ∀ y s' a' w', G (some y, none) → IsSt R0 s' a' w' → a'.defers = [] → (evRes C fn res (.normal, s')).holds (fun z => z = y) → Q .ret a' w')
    (hgo : ∀ x a' w', G (none, some x) → Hd R0 c obj n d (mkS ts bs x) a' w' → LTo P b rest Q a' w')
    (hbad : ¬ G (none, none)) : LTo P b (cs ++ rest) Q a w := by
  obtain ⟨R, h1, h2, h3, h4⟩ := h.st
  have hsz := calmL_wr hcalm
  refine piece_to TOK GC hmix (calmL_lam hcalm) (fun x hx t ht => by rw [h.size]; exact (hsz x hx t ht).1) h3 hG ?_ ?_ hbad
  · intro y s' a' w' k1 k2 k3 k4
    exact hret y s' a' w' k1 (h4 _ _ _ k2) (k3.trans h.defers) k4
  · intro x a' w' k1 k2 k3 k4 k5
    exact hgo x a' w' k1 ⟨h.new, k3.trans h.size, k4.trans h.defers, (k5 d (fun x hx ht => (hsz x hx d ht).2 rfl)).trans h.slot, R, h1, h2, k2, h4⟩
theorem dst_ok {o : Oper} {m n d : Nat} (h : o.dst = some m) (hm : (Nat.blt m n && !(Nat.beq m d)) = true) : ∀ k, o.dst = some k → k < n ∧ k ≠ d := by
  intro k hk
  rw [h] at hk
  have e : m = k := Option.some.inj hk
  subst e
  rw [Bool.and_eq_true, Nat.blt_eq] at hm
  exact ⟨hm.1, fun e => by subst e; simp at hm⟩

/-- A call is at its end, and this is what it answers. -/
def finQ (C : Ctx) (fn : Func) (res : List GTy) (R0 : Ref) (y : dens res) (e : Exit) (a' : Act) (w' : World) : Prop :=
  (e = .normal ∨ e = .ret) ∧ a'.defers = [] ∧ ∃ s', IsSt R0 s' a' w' ∧ (evRes C fn res (.normal, s')).holds (fun z => z = y)

theorem ctr_of_to (TOK : TysOK P C.τ) {f : Nat} {k : Ctr} (hf : (P.funcs[f]?).isSome = true) (hname : ((fnOf P f).name == "runtime.NumGoroutine") = false) (hbody : (fnOf P f).body.isSome = true) (hn : ∀ x, (resL k.args x).length ≤ (fnOf P f).ntmps)
    (h : ∀ (R0 : Ref) (b : Frame) (x : dens k.args) (a : Act), b.kind ≠ .early → wtD k.args x → (∀ p, k.pre = some p → p x) → IsSt R0 { tmps := number 0 (resL k.args x), boxes := [] } a R0.w0 → a.tmps.size = (fnOf P f).ntmps → a.defers = [] →
      LTo P b (seqs (bodyOf (fnOf P f))) (finQ C (fnOf P f) k.res R0 (k.fn x)) a R0.w0) : CtrOK P f k := by
  refine ⟨⟨_, fnOf_eq hf, by rw [bodyOf_eq hbody]; rfl, hname⟩, fun w S us x hS hT henc hpre => ?_⟩
  have h0 := start_st (n := (fnOf P f).ntmps) hS hT henc
  have hlen := (resL_rel (M := ⟨w, S, fun _ => undef, []⟩) henc).length
  have hx := hn x
  refine calls_of_to (fnOf_eq hf) (bodyOf_eq hbody) ?_
  refine CodeTo.mono (CodeTo.seqs (h ⟨w, fun _ => False, S, hT⟩ _ x _ (fun e => by cases e) henc.wt hpre h0 (by simp; omega) rfl)) ?_
  rintro e a' w' ⟨he, hd, s', h1, h2⟩
  exact ⟨he, hd, finish_st TOK h1 h2⟩
end
end Go.Ev
/- Another world to start from, but for a set of blocks that no box owns. -/
set_option linter.unusedVariables false
set_option linter.unusedSimpArgs false
namespace Go.Ev
theorem rebaseK {R0 R : Ref} {K K' : Nat → Prop} {s : St} {a : Act} {w w' : World} (h : IsSt R s a w) (back : ∀ M, InvM R M → InvM R0 M) (hK : ∀ k, K k → k < R.w0.heap.size ∧ ¬ R.own k ∧ ∀ o, ¬ R.S0 k o)
    (hK' : ∀ k, K' k → K k ∨ w.heap.size ≤ k) (hnew : ∀ k, K' k → R0.w0.heap.size ≤ k) (hlt : ∀ k, K' k → k < w'.heap.size)
    (hos : w'.os = w.os) (htape : w'.tape = w.tape) (hout : w'.output = w.output) (hsz : w.heap.size ≤ w'.heap.size) (hcell : ∀ k, k < w.heap.size → ¬ K' k → w'.heap[k]? = w.heap[k]?) :
    ∃ R' : Ref, R'.w0 = w' ∧ (∀ k, K' k → k < R'.w0.heap.size ∧ ¬ R'.own k ∧ ∀ o, ¬ R'.S0 k o) ∧ IsSt R' s a w' ∧ ∀ M, InvM R' M → InvM R0 M := by
  obtain ⟨M, rfl, hb, I, hr⟩ := h
  have I0 := back M I
  have noS : ∀ k o, K' k → ¬ M.S k o := by
    intro k o hk hs
    obtain ⟨h1, h2⟩ := I.here k o hs
    rcases hK' k hk with h3 | h3
    · obtain ⟨g1, g2, g3⟩ := hK k h3
      rcases h1 with h1 | h1 | h1
      · exact g3 o h1
      · omega
      · exact g2 h1
    · omega
  have notK : ∀ k, R.new k → k < M.w.heap.size → ¬ K' k := by
    intro k hn hl hk
    rcases hK' k hk with h3 | h3
    · obtain ⟨g1, g2, g3⟩ := hK k h3
      rcases hn with h1 | h1
      · omega
      · exact g2 h1
    · omega
  have hblk' : ∀ b d B, lk b M.bs = some (d, B) → ∀ k, blkOf (M.β b) = some k → ¬ K' k := by
    intro b d B hB k hk
    have hRB := I.boxes b d B hB
    have hl := hRB.lt k hk
    refine notK k ?_ hl
    cases B with
    | var g x =>
      obtain ⟨blk, cs, e, h1, h2, h3, h4, h5⟩ := hRB
      rw [h1] at hk
      simp [blkOf] at hk
      subst hk
      exact h5
    | row e g xs fz =>
      obtain ⟨cs, h1, h2, h3, h4, h5, h6⟩ := hRB
      exact (h6 k hk).1
    | iter y pos => exact hRB.new k hk
  have hk : Keeps M.S M.S M.w w' := by
    intro k o hS
    exact ⟨hS, cell_of_heap (hcell k (I.here k o hS).2 (fun hk => noS k o hk hS))⟩
  have ref : ∀ {R1 R2 : Ref} {v : Value} {B : Box} {W : World} {S : Stab}, (∀ blk, R1.new blk → blkOf v = some blk → R2.new blk) → RelB R1 W S v B → RelB R2 W S v B := by
    intro R1 R2 v B W S hn hB
    cases B with
    | var g x =>
      obtain ⟨blk, cs, e, h1, h2, h3, h4, h5⟩ := hB
      exact ⟨blk, cs, e, h1, h2, h3, h4, hn blk h5 (by rw [h1]; rfl)⟩
    | row e g xs fz =>
      obtain ⟨cs, h1, h2, h3, h4, h5, h6⟩ := hB
      exact ⟨cs, h1, h2, h3, h4, h5, fun blk hb => ⟨hn blk (h6 blk hb).1 hb, (h6 blk hb).2⟩⟩
    | iter y pos =>
      obtain ⟨blk, h1, h2, h3, h4, h5⟩ := hB
      exact ⟨blk, h1, h2, h3, h4, hn blk h5 (by rw [h1]; rfl)⟩
  have st : Step M { M with w := w' } (fun _ => False) := ⟨hk, fun b d B h _ => ⟨d, B, h, rfl, Box.le_refl B⟩⟩
  refine ⟨⟨w', fun k => R0.new k ∧ ¬ K' k, M.S, (R0.tab.keeps I0.old).keeps hk⟩, rfl, fun k h => ⟨hlt k h, fun g => g.2 h, fun o => noS k o h⟩, ?_, ?_⟩
  · refine ⟨{ M with w := w' }, rfl, hb, ⟨rfl, rfl, rfl, Nat.le_refl _, fun _ _ _ => rfl, Keeps.refl _ _, fun b o hs => ⟨.inl hs, Nat.lt_of_lt_of_le (I.here b o hs).2 hsz⟩, fun b d B hB => ?_, I.sep⟩, fun t => (hr t).step st (fun b hb => hb.elim)⟩
    have hRB := I0.boxes b d B hB
    have hm := hRB.move hk (fun blk hblk => hcell blk (hRB.lt blk hblk) (hblk' b d B hB blk hblk)) (fun blk o hblk hs => hs)
    exact ref (fun blk hn hv => .inr ⟨hn, hblk' b d B hB blk hv⟩) hm
  · intro M2 I2
    refine ⟨I2.os.trans (hos.trans I0.os), I2.tape.trans (htape.trans I0.tape), I2.output.trans (hout.trans I0.output), Nat.le_trans I0.size (Nat.le_trans hsz I2.size), ?_, I0.old.trans (hk.trans I2.old), ?_, ?_, I2.sep⟩
    · intro k h1 h2
      have hkc : ¬ K' k := fun h => by have := hnew k h; omega
      have hno : ¬ (R0.new k ∧ ¬ K' k) := by
        rintro ⟨h3 | h3, _⟩
        · omega
        · exact h2 h3
      have h4 : k < M.w.heap.size := Nat.lt_of_lt_of_le h1 I0.size
      exact (I2.frame k (Nat.lt_of_lt_of_le h4 hsz) hno).trans ((hcell k h4 hkc).trans (I0.frame k h1 h2))
    · intro b o hs
      obtain ⟨h1, h2⟩ := I2.here b o hs
      refine ⟨?_, h2⟩
      rcases h1 with h1 | h1 | h1
      · exact (I0.here b o h1).1
      · exact .inr (.inl (Nat.le_trans (Nat.le_trans I0.size hsz) h1))
      · exact .inr h1.1
    · intro b d B hB
      refine ref (fun blk hn _ => ?_) (I2.boxes b d B hB)
      rcases hn with h1 | h1
      · exact .inl (Nat.le_trans (Nat.le_trans I0.size hsz) h1)
      · exact h1.1

section
variable {P : Program} {C : Ctx} {b : Frame} {Q : Exit → Act → World → Prop} {a : Act} {w : World} {ops : Array Oper} {l : List Nat}
/-- In these slots this is known; some slots hold these values; these blocks are such. -/
structure Kd (R0 : Ref) (K : Nat → Prop) (W : Nat → Option Obj) (n : Nat) (sl : List (Nat × Value)) (s : St) (a : Act) (w : World) : Prop where
  new : ∀ k, K k → R0.w0.heap.size ≤ k
  size : a.tmps.size = n
  defers : a.defers = []
  slots : ∀ p ∈ sl, a.tmps.getD p.1 undef = p.2
  st : ∃ R : Ref, (∀ k, K k → k < R.w0.heap.size ∧ ¬ R.own k ∧ ∀ o, ¬ R.S0 k o) ∧ (∀ k, K k → R.w0.heap[k]? = W k) ∧ IsSt R s a w ∧ ∀ M, InvM R M → InvM R0 M
variable {R0 : Ref} {K : Nat → Prop} {W : Nat → Option Obj} {n : Nat} {sl : List (Nat × Value)} {s : St}
theorem Kd.heap (h : Kd R0 K W n sl s a w) {k : Nat} (hk : K k) : w.heap[k]? = W k := by
  obtain ⟨R, h1, h2, h3, _⟩ := h.st
  rw [h3.frame (h1 k hk).1 (h1 k hk).2.1]
  exact h2 k hk
theorem Kd.old (h : Kd R0 K W n sl s a w) : IsSt R0 s a w := by
  obtain ⟨R, _, _, ⟨M, hM, hb, I, hr⟩, h4⟩ := h.st
  exact ⟨M, hM, hb, h4 M I, hr⟩
theorem Kd.start (h : IsSt R0 s a w) (hs : a.tmps.size = n) (hd : a.defers = []) (hsl : ∀ p ∈ sl, a.tmps.getD p.1 undef = p.2) : Kd R0 (fun _ => False) W n sl s a w :=
  ⟨fun _ h => h.elim, hs, hd, hsl, R0, fun _ h => h.elim, fun _ h => h.elim, h, fun _ I => I⟩
theorem Kd.world {K' : Nat → Prop} {W' : Nat → Option Obj} {w' : World} (h : Kd R0 K W n sl s a w) (hK' : ∀ k, K' k → K k ∨ w.heap.size ≤ k) (hlt : ∀ k, K' k → k < w'.heap.size) (hW : ∀ k, K' k → w'.heap[k]? = W' k)
    (hos : w'.os = w.os) (htape : w'.tape = w.tape) (hout : w'.output = w.output) (hsz : w.heap.size ≤ w'.heap.size) (hcell : ∀ k, k < w.heap.size → ¬ K' k → w'.heap[k]? = w.heap[k]?) : Kd R0 K' W' n sl s a w' := by
  have hg := h.old.grow
  obtain ⟨R, h1, h2, h3, h4⟩ := h.st
  have hn : ∀ k, K' k → R0.w0.heap.size ≤ k := fun k hk => by
    rcases hK' k hk with h5 | h5
    · exact h.new k h5
    · omega
  obtain ⟨R', e, g1, g2, g3⟩ := rebaseK h3 h4 h1 hK' hn hlt hos htape hout hsz hcell
  exact ⟨hn, h.size, h.defers, h.slots, R', g1, fun k hk => by rw [e]; exact hW k hk, g2, g3⟩
theorem Kd.restr {L : LoopSpec} {s' : St} (h : Kd R0 K W n sl s a w) (hr : restrict L s = some s') : Kd R0 K W n sl s' a w := by
  obtain ⟨R, h1, h2, h3, h4⟩ := h.st
  exact ⟨h.new, h.size, h.defers, h.slots, R, h1, h2, h3.restr (restrict_spec hr), h4⟩
/-- A slot that nothing is known of takes a value that is to be kept. -/
theorem Kd.keep {k : Nat} {v : Value} (h : Kd R0 K W n sl s a w) (hl : s.look k = .undef) (hk : k < n) (hd : ∀ p ∈ sl, p.1 ≠ k) : Kd R0 K W n ((k, v) :: sl) s (a.put (some k) v) w := by
  obtain ⟨R, h1, h2, h3, h4⟩ := h.st
  have hk' : k < a.tmps.size := by rw [h.size]; exact hk
  refine ⟨h.new, (put_size _ _ _).trans h.size, (put_defers' _ _ _).trans h.defers, fun p hp => ?_, R, h1, h2, h3.put_undef hl hk', h4⟩
  rcases List.mem_cons.1 hp with rfl | hp
  · exact put_at hk'
  · exact (put_same hk' (hd p hp)).trans (h.slots p hp)
theorem Kd.less {sl' : List (Nat × Value)} (h : Kd R0 K W n sl s a w) (hs : ∀ p ∈ sl', p ∈ sl) : Kd R0 K W n sl' s a w :=
  ⟨h.new, h.size, h.defers, fun p hp => h.slots p (hs p hp), h.st⟩
theorem Kd.op (TOK : TysOK P C.τ) (GOK : CtrsOK P C.Γ) {i : Nat} {o : Oper} {e : Eff} (h : Kd R0 K W n sl s a w) (ho : ops[i]? = some o) (hg : o.guard = none) (he : opEff C.τ C.Γ (o.dst.getD 0) o (s.args o) = some e) (hn : e.ok) (hk : ∀ k, o.dst = some k → k < n ∧ ∀ p ∈ sl, p.1 ≠ k)
    (hnext : ∀ a' w', Kd R0 K W n sl (s.after o e) a' w' → RegTo P b ops l Q a' w') : RegTo P b ops (i :: l) Q a w := by
  obtain ⟨R, h1, h2, h3, h4⟩ := h.st
  refine RegTo.op TOK GOK ho hg h3 he hn (fun k hk' => by rw [h.size]; exact (hk k hk').1) fun a' w' h5 h6 => hnext a' w' ⟨h.new, h6.size.trans h.size, h6.defers.trans h.defers, fun p hp => (h6.tmps p.1 (fun hd => (hk p.1 hd).2 p hp rfl)).trans (h.slots p hp), R, h1, h2, h5, h4⟩
/-- Pieces that keep out of these slots. -/
def farL (ts : List Nat) (cs : List Code) : Bool := cs.all fun x => (writes x).all fun t => ts.all fun d => !(Nat.beq t d)
theorem farL_out {ts : List Nat} {cs : List Code} (h : farL ts cs = true) {d : Nat} (hd : d ∈ ts) : ∀ x ∈ cs, d ∉ writes x := fun x hx ht => by
  unfold farL at h
  rw [List.all_eq_true] at h
  have h1 := h x hx
  rw [List.all_eq_true] at h1
  have h2 := h1 d ht
  rw [List.all_eq_true] at h2
  have h3 := h2 d hd
  simp at h3
theorem Kd.piece (TOK : TysOK P C.τ) (GC : CtrsOK P C.Γ) (hmix : P.follows .mixedOrders = true) {fn : Func} {res : List GTy} {ts : List (Nat × Sh)} {bs : List (Nat × BSh)} {rest cs : List Code} {G : Option (dens res) × Option (ShT ts × ShB bs) → Prop} (h : Kd R0 K W n sl s a w) (hcalm : calmL n n cs = true) (hfar : farL (sl.map (·.1)) cs = true) (hG : (pieceT C fn res ts bs cs s).holds G)
    (hret : ∀ y s' a' w', G (some y, none) → IsSt R0 s' a' w' → a'.defers = [] → (evRes C fn res (.normal, s')).holds (fun z => z = y) → Q .ret a' w')
    (hgo : ∀ x a' w', G (none, some x) → Kd R0 K W n sl (mkS ts bs x) a' w' → LTo P b rest Q a' w')
    (hbad : ¬ G (none, none)) : LTo P b (cs ++ rest) Q a w := by
  obtain ⟨R, h1, h2, h3, h4⟩ := h.st
  have hsz := calmL_wr hcalm
  refine piece_to TOK GC hmix (calmL_lam hcalm) (fun x hx t ht => by rw [h.size]; exact (hsz x hx t ht).1) h3 hG ?_ ?_ hbad
  · rintro y s' a' w' k1 ⟨M, hM, hb, I, hr⟩ k3 k4
    exact hret y s' a' w' k1 ⟨M, hM, hb, h4 M I, hr⟩ (k3.trans h.defers) k4
  · intro x a' w' k1 k2 k3 k4 k5
    exact hgo x a' w' k1 ⟨h.new, k3.trans h.size, k4.trans h.defers, fun p hp => (k5 p.1 (farL_out hfar (List.mem_map_of_mem hp))).trans (h.slots p hp), R, h1, h2, k2, h4⟩
/-- A loop, with what holds at its head and what goes down. -/
theorem CodeTo.loop {c : Code} (I : Nat → Act → World → Prop) (n0 : Nat) (h0 : I n0 a w) (round : ∀ n a w, I n a w → CodeTo P b c (Exit.then (fun a' w' => ∃ m, m < n ∧ I m a' w') Q) a w) : CodeTo P b (.loop c) Q a w := by
  intro k cs
  have key : ∀ n a w, I n a w → ∃ e a' w', Q e a' w' ∧ Arrives P (lone (b.at a (.code c :: .inLoop c :: k)) cs w) b k cs e a' w' := by
    intro n
    induction n using Nat.strongRecOn with
    | _ n ih =>
      intro a w hI
      obtain ⟨e, a1, w1, hq, harr⟩ := round n a w hI (.inLoop c :: k) cs
      cases e with
      | normal =>
        obtain ⟨m, hlt, hI1⟩ := hq
        obtain ⟨e2, a2, w2, hq2, harr2⟩ := ih m hlt a1 w1 hI1
        exact ⟨e2, a2, w2, hq2, .of_steps (Steps.trans harr (.one step_inLoop)) harr2⟩
      | exit id => exact ⟨_, a1, w1, hq, .pass (x := .inLoop c) rfl (fun _ _ => .inl (by simp)) harr⟩
      | goto l => exact ⟨_, a1, w1, hq, .pass (x := .inLoop c) rfl (fun _ _ => .inl (by simp)) harr⟩
      | ret => exact ⟨_, a1, w1, hq, .pass (x := .inLoop c) rfl (fun _ _ => .inl (by simp)) harr⟩
      | panic ch => exact ⟨_, a1, w1, hq, .pass (x := .inLoop c) rfl (fun _ _ => .inl (by simp)) harr⟩
      | outgrown => exact ⟨_, a1, w1, hq, .pass (x := .inLoop c) rfl (fun _ _ => .inl (by simp)) harr⟩
  obtain ⟨e, a', w', hq, harr⟩ := key n0 a w h0
  exact ⟨e, a', w', hq, .of_steps (.one step_loop) harr⟩
/-- A block: its own exit is its end. -/
theorem CodeTo.block {id : Nat} {c : Code} (h : CodeTo P b c (Exit.inBlock id Q) a w) : CodeTo P b (.block id c) Q a w := by
  intro k cs
  obtain ⟨e, a1, w1, hq, harr⟩ := h (.inBlock id :: k) cs
  cases e with
  | normal => exact ⟨.normal, a1, w1, hq, .head step_block (Steps.trans harr (.one step_inBlock))⟩
  | exit id' =>
    by_cases hid : id' = id
    · simp only [Exit.inBlock, hid, if_true] at hq
      exact ⟨.normal, a1, w1, hq, .head step_block (harr k (by simp [exitTo, hid]))⟩
    · simp only [Exit.inBlock, hid, if_false] at hq
      refine ⟨.exit id', a1, w1, hq, fun k' hk => .head step_block (harr k' ?_)⟩
      have : (id == id') = false := by simp; exact fun h => hid h.symm
      simp [exitTo, this, hk]
  | goto l => exact ⟨_, a1, w1, hq, fun k' hk => .head step_block (harr k' (by simp [gotoIn, hk]))⟩
  | ret => exact ⟨_, a1, w1, hq, .of_steps (.one step_block) harr⟩
  | panic ch => exact ⟨_, a1, w1, hq, .of_steps (.one step_block) harr⟩
  | outgrown => exact ⟨_, a1, w1, hq, .of_steps (b := b) (k := k) (cs := cs) (e := .outgrown) (.one step_block) harr⟩
theorem CodeTo.exit {id : Nat} (h : Q (.exit id) a w) : CodeTo P b (.exit id) Q a w := fun _ _ => ⟨.exit id, a, w, h, fun _ hk => .one (step_exit hk)⟩
end
end Go.Ev
/- A call beside the evaluator: of a function, or of a function value, whose Calls is given. -/
set_option linter.unusedVariables false
set_option linter.unusedSimpArgs false
namespace Go.Ev
open Go.Conc
theorem yields_call {P : Program} {ρ : Operand → Value} {o : Oper} {w : World} {K : Value → World → Prop} {x : Operand} {aas : Array Operand} {ts : Array TypeId} {f : Nat} {caps : Array Value} {fn : Func} {R : Ending → World → Prop}
    (ho : o.op = .call { callee := .value x, args := aas, argTypes := ts }) (hx : ρ x = .func (.func f) #[] caps) (hf : P.funcs[f]? = some fn) (hb : fn.body.isNone = false) (hn : (fn.name == "runtime.NumGoroutine") = false)
    (h : Calls P f (aas.map ρ ++ caps) w R) (hR : ∀ e w', R e w' → ∃ v, e = .returned v ∧ K v w') : Yields P ρ o w K := by
  have hrun : (execOp ρ o).run P w = .ok (.enter f (aas.map ρ ++ caps)) w := by
    simp only [execOp, ho, resolve, hx, Deferred.ofValue, Sem.run_bind]
    have h2' : ¬ fn.body = none := by intro hh; rw [hh] at hb; simp at hb
    have h3' : ¬ fn.name = "runtime.NumGoroutine" := by simpa using hn
    simp [invoke, callFunc, hf, h2', h3']
  unfold Yields
  rw [hrun]
  exact h.mono hR
section
variable {P : Program} {C : Ctx} {b : Frame} {Q : Exit → Act → World → Prop} {a : Act} {w : World} {ops : Array Oper} {l : List Nat} {R0 : Ref} {K : Nat → Prop} {W : Nat → Option Obj} {n : Nat} {sl : List (Nat × Value)} {s : St}
/-- What a part of a tuple is. -/
theorem RegTo.extract {i j : Nat} {o : Oper} {x : Operand} {vs : Array Value} {v : Value} (ho : ops[i]? = some o) (hg : o.guard = none) (hop : o.op = .extract x j) (hx : a.eval x = .tuple vs) (hv : vs[j]? = some v) (h : RegTo P b ops l Q (a.put o.dst v) w) : RegTo P b ops (i :: l) Q a w := by
  refine RegTo.value ho hg (v := v) (w' := w) ?_ h
  unfold execOp
  rw [hop]
  simp [hx, hv, Instr.extract]
/-- A slot's value, moved. -/
theorem RegTo.moved {i : Nat} {o : Oper} {x : Operand} (ho : ops[i]? = some o) (hg : o.guard = none) (hop : o.op = .move x ∨ o.op = .assign x) (h : RegTo P b ops l Q (a.put o.dst (a.eval x)) w) : RegTo P b ops (i :: l) Q a w := by
  refine RegTo.value ho hg (v := a.eval x) (w' := w) ?_ h
  unfold execOp
  rcases hop with hop | hop <;> rw [hop] <;> rfl
/-- A call that writes only kept blocks and new ones; what it leaves in new blocks is kept, or not. -/
theorem Kd.call {i f : Nat} {o : Oper} {x : Operand} {ar : Array Operand} {ts : Array TypeId} {caps args : Array Value} {fn : Func} {R : Ending → World → Prop} (h : Kd R0 K W n sl s a w)
    (ho : ops[i]? = some o) (hg : o.guard = none) (hop : o.op = .call { callee := .value x, args := ar, argTypes := ts }) (hx : a.eval x = .func (.func f) #[] caps) (hargs : ar.map a.eval ++ caps = args) (hf : P.funcs[f]? = some fn) (hb : fn.body.isNone = false) (hn : (fn.name == "runtime.NumGoroutine") = false)
    (hc : Calls P f args w R)
    (hR : ∀ e w', R e w' → ∃ v K' W', e = .returned v ∧ (∀ k, K' k → K k ∨ w.heap.size ≤ k) ∧ (∀ k, K' k → k < w'.heap.size) ∧ (∀ k, K' k → w'.heap[k]? = W' k) ∧ w'.os = w.os ∧ w'.tape = w.tape ∧ w'.output = w.output ∧ w.heap.size ≤ w'.heap.size ∧ (∀ k, k < w.heap.size → ¬ K' k → w'.heap[k]? = w.heap[k]?) ∧
      (Kd R0 K' W' n sl s a w' → RegTo P b ops l Q (a.put o.dst v) w')) : RegTo P b ops (i :: l) Q a w := by
  refine RegTo.yields ho hg (K := fun v w' => RegTo P b ops l Q (a.put o.dst v) w') (yields_call hop hx hf hb hn (hargs ▸ hc) fun e w' hr => ?_) (fun v w' hv => hv)
  obtain ⟨v, K', W', h1, h2, h3, h4, h5, h6, h7, h8, h9, h10⟩ := hR e w' hr
  exact ⟨v, h1, h10 (h.world h2 h3 h4 h5 h6 h7 h8 h9)⟩
theorem LTo.cons {c : Code} {cs : List Code} (h : CodeTo P b c (Exit.then (LTo P b cs Q) Q) a w) : LTo P b (c :: cs) Q a w := h
theorem Kd.known {k : Nat} {v : Value} {av : AV} (h : Kd R0 K W n sl s a w) (hv : ∀ M, RelV M av v) (hk : k < n) (hd : ∀ p ∈ sl, p.1 ≠ k) : Kd R0 K W n sl (s.put k av) (a.put (some k) v) w := by
  obtain ⟨R, h1, h2, h3, h4⟩ := h.st
  have hk' : k < a.tmps.size := by rw [h.size]; exact hk
  exact ⟨h.new, (put_size _ _ _).trans h.size, (put_defers' _ _ _).trans h.defers, fun p hp => (put_same hk' (hd p hp)).trans (h.slots p hp), R, h1, h2, h3.put_known hv hk', h4⟩
/-- Operations of a region, told by the evaluator, read back. -/
def opsT (C : Ctx) (ts : List (Nat × Sh)) (bs : List (Nat × BSh)) (l : List Oper) (s : St) : Tree (Option (ShT ts × ShB bs)) :=
  (runOps C l s).bind fun s' => match restrict { prom := [], keep := ts.map (·.1), boxes := bs.map (·.1), sum := fun _ => .stuck } s' with
    | none => .stuck
    | some s'' => .leaf (unS ts bs s'')
def farO (n : Nat) (ds : List Nat) (l : List Oper) : Bool := l.all fun o => o.guard.isNone && match o.dst with
  | some d => Nat.blt d n && ds.all fun t => !(Nat.beq t d)
  | none => true
theorem Kd.ops_run (TOK : TysOK P C.τ) (GOK : CtrsOK P C.Γ) {F : St → Prop} {l2 : List Nat} : ∀ (l1 : List Nat) {s : St} {a : Act} {w : World}, Kd R0 K W n sl s a w → (∀ i ∈ l1, i < ops.size) → farO n (sl.map (·.1)) (l1.map fun i => ops.getD i default) = true → (runOps C (l1.map fun i => ops.getD i default) s).holds F →
    (∀ s' a' w', F s' → Kd R0 K W n sl s' a' w' → RegTo P b ops l2 Q a' w') → RegTo P b ops (l1 ++ l2) Q a w
  | [], s, a, w, h, _, _, hF, hgo => hgo s a w hF h
  | i :: l1, s, a, w, h, hi, hfar, hF, hgo => by
    have hlt := hi i (by simp)
    have ho : ops[i]? = some (ops.getD i default) := by simp [hlt]
    generalize ops.getD i default = o at *
    have ho2 : ops.getD i default = o := by simp [Array.getD_eq_getD_getElem?, ho]
    simp only [List.map_cons, ho2] at hfar hF
    unfold farO at hfar
    rw [List.all_cons, Bool.and_eq_true, Bool.and_eq_true] at hfar
    obtain ⟨⟨hg, hd⟩, hrest⟩ := hfar
    simp only [runOps] at hF
    split at hF
    · exact hF.elim
    · rename_i e he
      have hF' : e.ok ∧ (runOps C (l1.map fun i => ops.getD i default) (s.after o e)).holds F := by
        cases hn : e.need with
        | none =>
          rw [hn] at hF
          exact ⟨(fun p hp => by rw [hn] at hp; cases hp), hF⟩
        | some p =>
          rw [hn] at hF
          exact ⟨(fun q hq => by rw [hn] at hq; cases hq; exact hF.1), hF.2⟩
      refine h.op TOK GOK ho (by simpa using hg) he hF'.1 (fun k hk => ?_) fun a' w' h' => Kd.ops_run TOK GOK l1 h' (fun j hj => hi j (by simp [hj])) (by unfold farO; exact hrest) hF'.2 hgo
      rw [hk] at hd
      simp only [Bool.and_eq_true, Nat.blt_eq] at hd
      refine ⟨hd.1, fun p hp => ?_⟩
      have := List.all_eq_true.1 hd.2 p.1 (List.mem_map_of_mem hp)
      intro e
      rw [e] at this
      simp at this
theorem Kd.opsL (TOK : TysOK P C.τ) (GOK : CtrsOK P C.Γ) {ts : List (Nat × Sh)} {bs : List (Nat × BSh)} {G : Option (ShT ts × ShB bs) → Prop} {l2 : List Nat} (l1 : List Nat) (h : Kd R0 K W n sl s a w) (hi : (l1.all fun i => Nat.blt i ops.size) = true) (hfar : farO n (sl.map (·.1)) (l1.map fun i => ops.getD i default) = true)
    (hG : (opsT C ts bs (l1.map fun i => ops.getD i default) s).holds G) (hgo : ∀ x a' w', G (some x) → Kd R0 K W n sl (mkS ts bs x) a' w' → RegTo P b ops l2 Q a' w') (hbad : ¬ G none) : RegTo P b ops (l1 ++ l2) Q a w := by
  refine h.ops_run TOK GOK l1 (fun i hm => ?_) hfar (holds_bind.1 hG) fun s' a' w' hF h' => ?_
  · have := List.all_eq_true.1 hi i hm
    simpa [Nat.blt_eq] using this
  · split at hF
    · exact hF.elim
    · rename_i s'' hr
      have h5 := h'.restr hr
      simp only [Tree.holds] at hF
      cases hu : unS ts bs s'' with
      | none => rw [hu] at hF; exact absurd hF hbad
      | some x =>
        rw [hu] at hF
        have := unS_eq hu
        subst this
        exact hgo x a' w' hF h5
end
theorem known_u8 {R : Ref} {s : St} {a : Act} {w : World} {t : Nat} {n : Int} (h : IsSt R s a w) (hl : s.look t = .val (.int .u8) n) : a.tmps.getD t undef = .int .u8 n := by
  obtain ⟨M, _, _, _, hr⟩ := h
  have := hr t
  rw [hl] at this
  obtain ⟨cs, h1, h2⟩ := this
  have h3 : cs = [.int .u8 n] := h1.1
  subst h3
  exact h2
theorem known_i64 {R : Ref} {s : St} {a : Act} {w : World} {t : Nat} {n : Int} (h : IsSt R s a w) (hl : s.look t = .val (.int .i64) n) : a.tmps.getD t undef = .int .i64 n := by
  obtain ⟨M, _, _, _, hr⟩ := h
  have := hr t
  rw [hl] at this
  obtain ⟨cs, h1, h2⟩ := this
  have h3 : cs = [.int .i64 n] := h1.1
  subst h3
  exact h2
theorem known_u64 {R : Ref} {s : St} {a : Act} {w : World} {t : Nat} {n : Int} (h : IsSt R s a w) (hl : s.look t = .val (.int .u64) n) : a.tmps.getD t undef = .int .u64 n := by
  obtain ⟨M, _, _, _, hr⟩ := h
  have := hr t
  rw [hl] at this
  obtain ⟨cs, h1, h2⟩ := this
  have h3 : cs = [.int .u64 n] := h1.1
  subst h3
  exact h2
theorem known_u32 {R : Ref} {s : St} {a : Act} {w : World} {t : Nat} {n : Int} (h : IsSt R s a w) (hl : s.look t = .val (.int .u32) n) : a.tmps.getD t undef = .int .u32 n := by
  obtain ⟨M, _, _, _, hr⟩ := h
  have := hr t
  rw [hl] at this
  obtain ⟨cs, h1, h2⟩ := this
  have h3 : cs = [.int .u32 n] := h1.1
  subst h3
  exact h2
theorem known_str {R : Ref} {s : St} {a : Act} {w : World} {t : Nat} {n : List UInt8} (h : IsSt R s a w) (hl : s.look t = .val .str n) : a.tmps.getD t undef = .string ⟨⟨n⟩⟩ := by
  obtain ⟨M, _, _, _, hr⟩ := h
  have := hr t
  rw [hl] at this
  obtain ⟨cs, h1, h2⟩ := this
  have h3 : cs = [.string ⟨⟨n⟩⟩] := h1.1
  subst h3
  exact h2
def rThen : Code → Code
  | .cond _ x _ => x
  | _ => .skip
def rElse : Code → Code
  | .cond _ _ x => x
  | _ => .skip
def rIn : Code → Code
  | .block _ c => c
  | _ => .skip
def rOps : Code → Array Oper
  | .region _ ops _ => ops
  | _ => #[]
def rOp (c : Code) (i : Nat) : Oper := (rOps c).getD i default
def rNth (c : Code) (i : Nat) : Code := (seqs c).getD i .skip
end Go.Ev
/- Sound costs. -/
set_option linter.unusedVariables false
set_option linter.unusedSimpArgs false
namespace Go.Ev.D
open Go.Proofs
def soundG : List (Nat × Ctr) := [(44, upC), (108, rcostC)]
theorem soundG_ok : CtrsOK Tryd.prog (fun f => lk f soundG) := (ctrs_cons up_ok (ctrs_cons rcost_ok ctrs_nil))
def soundC : Ctr := { args := [gCosts], res := [.bool], pre := none, fn := fun (x : DCosts) => soundF x }
def soundD : LoopD where
  prom := []
  ts := [(1, .ptr 1 gCosts), (2, .val .bool), (3, .ptr 3 (.arr 16 (.int .u32))), (15, .val (.sl (.int .i64))), (16, .val (.int .i64)), (17, .val (.int .i64))]
  bs := [(1, .var gCosts), (3, .var (.arr 16 (.int .u32)))]
  pre := fun (x : (Bool × List Int × Int × Int × Unit) × DCosts × List Int × Unit) => 0 ≤ x.1.2.2.2.1 ∧ x.1.2.2.2.1 ≤ x.1.2.2.1 ∧ x.1.2.2.1 = x.1.2.1.length ∧ x.1.2.2.1 ≤ 16 ∧ ∀ n ∈ x.1.2.1, 0 ≤ n ∧ n < 16
  out := fun (x : (Bool × List Int × Int × Int × Unit) × DCosts × List Int × Unit) =>
    .br (goodL x.2.1 (x.1.2.1.drop x.1.2.2.2.1.toNat)) (.leaf (.exit 0, ((x.1.1, x.1.2.1, x.1.2.2.1, x.1.2.2.1, ()), x.2.1, fillL x.2.1 (x.1.2.1.drop x.1.2.2.2.1.toNat) x.2.2.1, ())))
      (.leaf (.ret, ((false, x.1.2.1, x.1.2.2.1, (badL x.2.1 (x.1.2.1.drop x.1.2.2.2.1.toNat) x.2.2.1 x.1.2.2.2.1).1, ()), x.2.1, (badL x.2.1 (x.1.2.1.drop x.1.2.2.2.1.toNat) x.2.2.1 x.1.2.2.2.1).2, ())))
theorem sound_round : (fun x : (Bool × List Int × Int × Int × Unit) × DCosts × List Int × Unit => roundOf (mkC tys soundG [(0, soundD.spec)]) soundD (loopB 0 (bodyOf (fnOf Tryd.prog 50))) x) =
  (fun x =>
    Tree.br (decide (x.1.2.2.2.1 < x.1.2.2.1))
      (Tree.need ((0 : Int) ≤ x.1.2.2.2.1 ∧ x.1.2.2.2.1 < (↑(List.length x.1.2.1) : Int))
        (Tree.need ((0 : Int) ≤ List.getD x.1.2.1 (Int.toNat x.1.2.2.2.1) (0 : Int) ∧ List.getD x.1.2.1 (Int.toNat x.1.2.2.2.1) (0 : Int) < (16 : Int))
          (Tree.br (!rcostF (List.getD x.2.1.2 (Int.toNat (List.getD x.1.2.1 (Int.toNat x.1.2.2.2.1) (0 : Int))) (0 : Int)))
            (Tree.leaf (Ex.ret, some ((false, x.1.2.1, x.1.2.2.1, x.1.2.2.2.1, ()), x.2.1, x.2.2.1, ())))
            (Tree.need ((0 : Int) ≤ List.getD x.1.2.1 (Int.toNat x.1.2.2.2.1) (0 : Int) ∧ List.getD x.1.2.1 (Int.toNat x.1.2.2.2.1) (0 : Int) < (16 : Int))
              (Tree.need ((0 : Int) ≤ List.getD x.1.2.1 (Int.toNat x.1.2.2.2.1) (0 : Int) ∧ List.getD x.1.2.1 (Int.toNat x.1.2.2.2.1) (0 : Int) < (16 : Int))
                (Tree.leaf
                  (Ex.normal,
                    some
                      ((x.1.1, x.1.2.1, x.1.2.2.1, IntKind.wrap IntKind.i64 (x.1.2.2.2.1 + (1 : Int)), ()), x.2.1,
                        List.set x.2.2.1 (Int.toNat (List.getD x.1.2.1 (Int.toNat x.1.2.2.2.1) (0 : Int)))
                          (List.getD x.2.1.2 (Int.toNat (List.getD x.1.2.1 (Int.toNat x.1.2.2.2.1) (0 : Int))) (0 : Int)),
                        ()))))))))
      (Tree.leaf (Ex.exit (0 : Nat), some ((x.1.1, x.1.2.1, x.1.2.2.1, x.1.2.2.2.1, ()), x.2.1, x.2.2.1, ())))) := by kernel_rfl
theorem sound_loop : LoopOK (mkC tys soundG [(0, soundD.spec)]) soundD.spec (loopB 0 (bodyOf (fnOf Tryd.prog 50))) :=
  loopD_ok (fun x => congrFun sound_round x) (fun (x : (Bool × List Int × Int × Int × Unit) × DCosts × List Int × Unit) => (x.1.2.2.1 - x.1.2.2.2.1).toNat) fun (x : (Bool × List Int × Int × Int × Unit) × DCosts × List Int × Unit) hp => by
    obtain ⟨⟨b, l, m, i, ⟨⟩⟩, c, w, ⟨⟩⟩ := x
    obtain ⟨h1, h2, h3, h4, h5⟩ := hp
    simp only at h1 h2 h3 h4 h5
    simp only [Tree.holds]
    refine ⟨fun h => ?_, fun h => ?_⟩
    · have h' : i < m := by simpa using h
      have e : IntKind.i64.wrap (i + 1) = i + 1 := i64_id (by omega) (by omega)
      have hd := drop_step (l := l) (0 : Int) h1 (by omega)
      have hn : l.getD i.toNat 0 ∈ l := by
        have : i.toNat < l.length := by omega
        simp [List.getD, this]
      have hb := h5 _ hn
      have hr : 0 ≤ i ∧ i < (l.length : Int) := by omega
      generalize l.getD i.toNat 0 = n at *
      refine ⟨hr, hb, fun hc => ⟨_, rfl, fun G hG => ?_⟩, fun hc => ⟨hb, hb, _, rfl, ⟨?_, ?_, h3, h4, h5⟩, ?_, fun G hG => ?_⟩⟩
      · have hc' : rcostF (costAt c n) = false := by simpa [costAt] using hc
        have hg : goodL c (l.drop i.toNat) = false := by rw [hd]; simp [goodL, hc']
        have hG' := (hG.2 hg : G _)
        rw [hd] at hG'
        simp only [badL, hc', cond_false] at hG'
        exact hG'
      · show 0 ≤ IntKind.i64.wrap (i + 1); omega
      · show IntKind.i64.wrap (i + 1) ≤ m; omega
      · show (m - IntKind.i64.wrap (i + 1)).toNat < (m - i).toNat; omega
      · have hc' : rcostF (costAt c n) = true := by simpa [costAt] using hc
        have hg : goodL c (l.drop i.toNat) = goodL c (l.drop (i + 1).toNat) := by rw [hd]; simp [goodL, hc']
        have hf : fillL c (l.drop i.toNat) w = fillL c (l.drop (i + 1).toNat) (w.set n.toNat (costAt c n)) := by rw [hd]; rfl
        have hbd : badL c (l.drop i.toNat) w i = badL c (l.drop (i + 1).toNat) (w.set n.toNat (costAt c n)) (i + 1) := by rw [hd]; simp only [badL, hc', cond_true]
        have hG' : (goodL c (l.drop i.toNat) = true → G (.exit 0, ((b, l, m, m, ()), c, fillL c (l.drop i.toNat) w, ()))) ∧ (goodL c (l.drop i.toNat) = false → G (.ret, ((false, l, m, (badL c (l.drop i.toNat) w i).1, ()), c, (badL c (l.drop i.toNat) w i).2, ()))) := hG
        rw [hg, hf, hbd] at hG'
        show (goodL c (l.drop (IntKind.i64.wrap (i + 1)).toNat) = true → G (.exit 0, ((b, l, m, m, ()), c, fillL c (l.drop (IntKind.i64.wrap (i + 1)).toNat) (w.set n.toNat (costAt c n)), ()))) ∧
          (goodL c (l.drop (IntKind.i64.wrap (i + 1)).toNat) = false → G (.ret, ((false, l, m, (badL c (l.drop (IntKind.i64.wrap (i + 1)).toNat) (w.set n.toNat (costAt c n)) (IntKind.i64.wrap (i + 1))).1, ()), c, (badL c (l.drop (IntKind.i64.wrap (i + 1)).toNat) (w.set n.toNat (costAt c n)) (IntKind.i64.wrap (i + 1))).2, ())))
        rw [e]
        exact hG'
    · have h' : ¬ i < m := by simpa using h
      have hi : i = m := by omega
      subst hi
      have hd : l.drop i.toNat = [] := List.drop_eq_nil_of_le (by omega)
      refine ⟨_, rfl, fun G hG => ?_⟩
      have hG' : (goodL c (l.drop i.toNat) = true → G (.exit 0, ((b, l, i, i, ()), c, fillL c (l.drop i.toNat) w, ()))) ∧ (goodL c (l.drop i.toNat) = false → G (.ret, ((false, l, i, (badL c (l.drop i.toNat) w i).1, ()), c, (badL c (l.drop i.toNat) w i).2, ()))) := hG
      rw [hd] at hG'
      exact hG'.1 rfl
theorem sound_tree : (fun x : DCosts => evFn (mkC tys soundG [(0, soundD.spec)]) (fnOf Tryd.prog 50) (resL soundC.args x) soundC.res) =
  (fun x =>
    Tree.br (bif decide (x.1 < (0 : Int)) then true else decide (x.1 ≥ (65536 : Int))) (Tree.leaf false)
      (Tree.need
        ((0 : Int) ≤ (0 : Int) ∧
          (0 : Int) ≤ (↑(List.length (elemsF x.1 (16 : Nat))) : Int) ∧
            (↑(List.length (elemsF x.1 (16 : Nat))) : Int) = (↑(List.length (elemsF x.1 (16 : Nat))) : Int) ∧
              (↑(List.length (elemsF x.1 (16 : Nat))) : Int) ≤ (16 : Int) ∧ ∀ (n : Int), n ∈ elemsF x.1 (16 : Nat) → (0 : Int) ≤ n ∧ n < (16 : Int))
        (Tree.br (goodL x (List.drop (Int.toNat (0 : Int)) (elemsF x.1 (16 : Nat))))
          (Tree.leaf (geq (GTy.arr (16 : Nat) (GTy.int IntKind.u32)) x.2 (fillL x (List.drop (Int.toNat (0 : Int)) (elemsF x.1 (16 : Nat))) (List.replicate (16 : Nat) (0 : Int))))) (Tree.leaf false)))) := by kernel_rfl
theorem sound_ok : CtrOK Tryd.prog 50 soundC :=
  fun_ok (G := soundG) (Λ := [(0, soundD.spec)]) tysOK soundG_ok mixed (by kernel_rfl) (by kernel_rfl) (by kernel_rfl) (by kernel_rfl) (lp_cons sound_loop lp_nil) fun (x : DCosts) hw _ => by
    rw [congrFun sound_tree x]
    have hl : x.2.length = 16 := hw.2.1
    refine holds_val (d := false) (sound_fn hl) ?_
    have hn : ∀ n ∈ elemsF x.1 16, 0 ≤ n ∧ n < 16 := fun n h => by
      have := (mem_elems (Nat.le_refl _)).1 h
      omega
    have hlen := elems_len x.1 16
    exact ⟨fun _ => trivial, fun _ => ⟨⟨by omega, by omega, rfl, by omega, hn⟩, fun _ => trivial, fun _ => trivial⟩⟩
def rsoundG : List (Nat × Ctr) := [(111, rhasC)]
theorem rsoundG_ok : CtrsOK Tryd.prog (fun f => lk f rsoundG) := (ctrs_cons rhas_ok ctrs_nil)
def rsoundC : Ctr := { args := [gCosts], res := [.bool], pre := none, fn := fun (x : DCosts) => soundF x }
def rsoundD : LoopD where
  prom := []
  ts := [(1, .ptr 1 gCosts), (2, .val .bool), (6, .val (.arr 16 (.int .u32))), (7, .val (.int .i64))]
  bs := [(1, .var gCosts)]
  pre := fun (x : (Bool × List Int × Int × Unit) × DCosts × Unit) => 0 ≤ x.1.2.2.1 ∧ x.1.2.2.1 ≤ 16 ∧ x.1.2.1 = x.2.1.2
  out := fun (x : (Bool × List Int × Int × Unit) × DCosts × Unit) => .br (allOk x.2.1 (16 - x.1.2.2.1).toNat) (.leaf (.exit 0, ((x.1.1, x.1.2.1, 16, ()), x.2.1, ()))) (.leaf (.ret, ((false, x.1.2.1, firstBad x.2.1 (16 - x.1.2.2.1).toNat, ()), x.2.1, ())))
theorem rsound_round : (fun x : (Bool × List Int × Int × Unit) × DCosts × Unit => roundOf (mkC tys rsoundG [(0, rsoundD.spec)]) rsoundD (loopB 0 (bodyOf (fnOf Tryd.prog 51))) x) =
  (fun x =>
    Tree.br (decide (x.1.2.2.1 < (16 : Int)))
      (Tree.need ((0 : Int) ≤ x.1.2.2.1 ∧ x.1.2.2.1 < (16 : Int))
        (Tree.br
          (bif
              !geq GTy.bool (hasF x.2.1.1 x.1.2.2.1)
                  (bif decide (List.getD x.1.2.1 (Int.toNat x.1.2.2.1) (0 : Int) ≥ (1 : Int)) then decide (List.getD x.1.2.1 (Int.toNat x.1.2.2.1) (0 : Int) ≤ (65536 : Int)) else false) then
            true
          else bif !hasF x.2.1.1 x.1.2.2.1 then List.getD x.1.2.1 (Int.toNat x.1.2.2.1) (0 : Int) != (0 : Int) else false)
          (Tree.leaf (Ex.ret, some ((false, x.1.2.1, x.1.2.2.1, ()), x.2.1, ()))) (Tree.leaf (Ex.normal, some ((x.1.1, x.1.2.1, IntKind.wrap IntKind.i64 (x.1.2.2.1 + (1 : Int)), ()), x.2.1, ())))))
      (Tree.leaf (Ex.exit (0 : Nat), some ((x.1.1, x.1.2.1, x.1.2.2.1, ()), x.2.1, ())))) := by kernel_rfl
theorem rsound_tree : (fun x : DCosts => evFn (mkC tys rsoundG [(0, rsoundD.spec)]) (fnOf Tryd.prog 51) (resL rsoundC.args x) rsoundC.res) =
  (fun x =>
    Tree.need ((0 : Int) ≤ (0 : Int) ∧ (0 : Int) ≤ (16 : Int) ∧ x.2 = x.2)
      (Tree.br (allOk x (Int.toNat ((16 : Int) - (0 : Int)))) (Tree.leaf (bif decide (x.1 ≥ (0 : Int)) then decide (x.1 ≤ (65535 : Int)) else false)) (Tree.leaf false))) := by kernel_rfl
theorem rsound_loop : LoopOK (mkC tys rsoundG [(0, rsoundD.spec)]) rsoundD.spec (loopB 0 (bodyOf (fnOf Tryd.prog 51))) :=
  loopD_ok (fun x => congrFun rsound_round x) (fun (x : (Bool × List Int × Int × Unit) × DCosts × Unit) => (16 - x.1.2.2.1).toNat) fun (x : (Bool × List Int × Int × Unit) × DCosts × Unit) hp => by
    obtain ⟨⟨b, l, i, ⟨⟩⟩, c, ⟨⟩⟩ := x
    obtain ⟨h1, h2, h3⟩ := hp
    simp only at h1 h2 h3
    subst h3
    simp only [Tree.holds]
    refine ⟨fun h => ?_, fun h => ?_⟩
    · have h' : i < 16 := by simpa using h
      have e : IntKind.i64.wrap (i + 1) = i + 1 := i64_id (by omega) (by omega)
      have hk : (16 - i).toNat = (16 - (i + 1)).toNat + 1 := by omega
      have hi : (16 : Int) - ((16 - (i + 1)).toNat + 1 : Nat) = i := by omega
      have hr := round_ok (c := c) (n := i)
      simp only [costAt] at hr
      refine ⟨⟨h1, h'⟩, fun hc => ⟨_, rfl, fun G hG => ?_⟩, fun hc => ⟨_, rfl, ⟨?_, ?_, rfl⟩, ?_, fun G hG => ?_⟩⟩
      · have ho : okAt c i = false := by
          have := hr.symm.trans hc
          simpa using this
        have hG' : allOk c (16 - i).toNat = false → G (.ret, ((false, c.2, firstBad c (16 - i).toNat, ()), c, ())) := hG.2
        rw [hk] at hG'
        simp only [allOk, firstBad, hi, ho, Bool.false_and, cond_false] at hG'
        exact hG' trivial
      · show 0 ≤ IntKind.i64.wrap (i + 1); omega
      · show IntKind.i64.wrap (i + 1) ≤ 16; omega
      · show (16 - IntKind.i64.wrap (i + 1)).toNat < (16 - i).toNat; omega
      · have ho : okAt c i = true := by
          have := hr.symm.trans hc
          simpa using this
        have hG' : (allOk c (16 - i).toNat = true → G (.exit 0, ((b, c.2, 16, ()), c, ()))) ∧ (allOk c (16 - i).toNat = false → G (.ret, ((false, c.2, firstBad c (16 - i).toNat, ()), c, ()))) := hG
        rw [hk] at hG'
        simp only [allOk, firstBad, hi, ho, Bool.true_and, cond_true] at hG'
        show (allOk c (16 - IntKind.i64.wrap (i + 1)).toNat = true → G (.exit 0, ((b, c.2, 16, ()), c, ()))) ∧ (allOk c (16 - IntKind.i64.wrap (i + 1)).toNat = false → G (.ret, ((false, c.2, firstBad c (16 - IntKind.i64.wrap (i + 1)).toNat, ()), c, ())))
        rw [e]
        exact hG'
    · have h' : ¬ i < 16 := by simpa using h
      have hi : i = 16 := by omega
      subst hi
      refine ⟨_, rfl, fun G hG => ?_⟩
      exact hG.1 rfl
theorem rsound_ok : CtrOK Tryd.prog 51 rsoundC :=
  fun_ok (G := rsoundG) (Λ := [(0, rsoundD.spec)]) tysOK rsoundG_ok mixed (by kernel_rfl) (by kernel_rfl) (by kernel_rfl) (by kernel_rfl) (lp_cons rsound_loop lp_nil) fun (x : DCosts) hw _ => by
    rw [congrFun rsound_tree x]
    refine holds_val (d := false) (rsound_fn x) ?_
    exact ⟨⟨by omega, by omega, rfl⟩, fun _ => trivial, fun _ => trivial⟩
end Go.Ev.D
/- Loops told by their steps: round after round, till one does not go on. -/
set_option linter.unusedVariables false
namespace Go.Ev
/-- So many rounds at most. -/
def runF {σ : Type} (stp : σ → Ex × σ) : Nat → σ → Ex × σ
  | 0, x => (.normal, x)
  | n + 1, x => match stp x with
    | (.normal, y) => runF stp n y
    | p => p
theorem runF_go {σ : Type} {stp : σ → Ex × σ} {n : Nat} {x y : σ} (h : stp x = (.normal, y)) : runF stp (n + 1) x = runF stp n y := by
  show (match stp x with | (.normal, y) => runF stp n y | p => p) = _
  rw [h]
theorem runF_end {σ : Type} {stp : σ → Ex × σ} {n : Nat} {x : σ} (h : (stp x).1 ≠ .normal) : runF stp (n + 1) x = stp x := by
  show (match stp x with | (.normal, y) => runF stp n y | p => p) = _
  split
  · rename_i y hy
    rw [hy] at h
    exact absurd rfl h
  · rfl
/-- Enough rounds are enough. -/
theorem runF_fuel {σ : Type} {stp : σ → Ex × σ} {pre : σ → Prop} {μ : σ → Nat} (h : ∀ x, pre x → (stp x).1 = .normal → pre (stp x).2 ∧ μ (stp x).2 < μ x) : ∀ n m x, pre x → μ x < n → μ x < m → runF stp n x = runF stp m x
  | 0, _, _, _, h1, _ => by omega
  | _ + 1, 0, _, _, _, h1 => by omega
  | n + 1, m + 1, x, hp, h1, h2 => by
    by_cases hn : (stp x).1 = .normal
    · have e : stp x = (.normal, (stp x).2) := Prod.ext hn rfl
      obtain ⟨h3, h4⟩ := h x hp hn
      rw [runF_go e, runF_go e]
      exact runF_fuel h n m _ h3 (by omega) (by omega)
    · rw [runF_end hn, runF_end hn]
/-- What holds at each round's head, and what comes of it. -/
theorem runF_inv {σ : Type} {stp : σ → Ex × σ} {J : σ → Prop} {Post : Ex × σ → Prop} {μ : σ → Nat} (h : ∀ x, J x → ((stp x).1 = .normal → J (stp x).2 ∧ μ (stp x).2 < μ x) ∧ ((stp x).1 ≠ .normal → Post (stp x))) : ∀ n x, J x → μ x < n → Post (runF stp n x)
  | 0, _, _, h1 => by omega
  | n + 1, x, hp, h1 => by
    obtain ⟨h2, h3⟩ := h x hp
    by_cases hn : (stp x).1 = .normal
    · have e : stp x = (.normal, (stp x).2) := Prod.ext hn rfl
      obtain ⟨h4, h5⟩ := h2 hn
      rw [runF_go e]
      exact runF_inv h n _ h4 (by omega)
    · rw [runF_end hn]
      exact h3 hn
def isRet : Ex → Bool
  | .ret => true
  | _ => false
/-- A loop that ends in one way. -/
def out1 {σ : Type} (id : Nat) (p : Ex × σ) : Tree (Ex × σ) := .leaf (.exit id, p.2)
/-- A loop that ends, or leaves the function. -/
def out2 {σ : Type} (id : Nat) (p : Ex × σ) : Tree (Ex × σ) := .br (isRet p.1) (.leaf (.ret, p.2)) (.leaf (.exit id, p.2))
section
variable {C : Ctx} {body : Code} {D : LoopD}
theorem loopF_ok {T : ShT D.ts × ShB D.bs → Tree (Ex × Option (ShT D.ts × ShB D.bs))} (hstep : ∀ x, roundOf C D body x = T x) (stp : ShT D.ts × ShB D.bs → Ex × (ShT D.ts × ShB D.bs)) (μ : ShT D.ts × ShB D.bs → Nat)
    (O : Ex × (ShT D.ts × ShB D.bs) → Tree (Ex × (ShT D.ts × ShB D.bs))) (hD : ∀ x, D.out x = O (runF stp (μ x + 1) x)) (hO : ∀ x, D.pre x → (stp x).1 ≠ .normal → ∀ G, (O (stp x)).holds G → G (stp x))
    (h : ∀ x, D.pre x → ((T x).holds fun p => p = ((stp x).1, some (stp x).2)) ∧ ((stp x).1 = .normal → D.pre (stp x).2 ∧ μ (stp x).2 < μ x)) : LoopOK C D.spec body :=
  loopD_ok hstep μ fun x hp => by
    obtain ⟨h1, h2⟩ := h x hp
    refine holds_mono ?_ h1
    rintro p rfl
    refine ⟨(stp x).2, rfl, ?_⟩
    by_cases hn : (stp x).1 = .normal
    · obtain ⟨h3, h4⟩ := h2 hn
      have e : stp x = (.normal, (stp x).2) := Prod.ext hn rfl
      simp only [hn]
      refine ⟨h3, h4, fun G hG => ?_⟩
      rw [hD, runF_go e, runF_fuel (pre := D.pre) (μ := μ) (fun y hy => (h y hy).2) (μ x) (μ (stp x).2 + 1) _ h3 h4 (by omega)] at hG
      rw [hD]
      exact hG
    · have hfin : ∀ G, (D.out x).holds G → G ((stp x).1, (stp x).2) := fun G hG => by
        rw [hD, runF_end hn] at hG
        exact hO x hp hn G hG
      cases he : (stp x).1 with
      | normal => exact absurd he hn
      | exit k => rw [he] at hfin; exact hfin
      | ret => rw [he] at hfin; exact hfin
/-- … that ends in one way. -/
theorem loopF1_ok {T : ShT D.ts × ShB D.bs → Tree (Ex × Option (ShT D.ts × ShB D.bs))} (hstep : ∀ x, roundOf C D body x = T x) {id : Nat} (stp : ShT D.ts × ShB D.bs → Ex × (ShT D.ts × ShB D.bs)) (μ : ShT D.ts × ShB D.bs → Nat) (hD : ∀ x, D.out x = out1 id (runF stp (μ x + 1) x))
    (he : ∀ x, (stp x).1 = .normal ∨ (stp x).1 = .exit id) (h : ∀ x, D.pre x → ((T x).holds fun p => p = ((stp x).1, some (stp x).2)) ∧ ((stp x).1 = .normal → D.pre (stp x).2 ∧ μ (stp x).2 < μ x)) : LoopOK C D.spec body :=
  loopF_ok hstep stp μ (out1 id) hD (fun x _ hn G hG => by
    have h1 := (he x).resolve_left hn
    have e : stp x = (.exit id, (stp x).2) := Prod.ext h1 rfl
    rw [e]
    exact hG) h
theorem loopF2_ok {T : ShT D.ts × ShB D.bs → Tree (Ex × Option (ShT D.ts × ShB D.bs))} (hstep : ∀ x, roundOf C D body x = T x) {id : Nat} (stp : ShT D.ts × ShB D.bs → Ex × (ShT D.ts × ShB D.bs)) (μ : ShT D.ts × ShB D.bs → Nat) (hD : ∀ x, D.out x = out2 id (runF stp (μ x + 1) x))
    (he : ∀ x, (stp x).1 = .normal ∨ (stp x).1 = .exit id ∨ (stp x).1 = .ret) (h : ∀ x, D.pre x → ((T x).holds fun p => p = ((stp x).1, some (stp x).2)) ∧ ((stp x).1 = .normal → D.pre (stp x).2 ∧ μ (stp x).2 < μ x)) : LoopOK C D.spec body :=
  loopF_ok hstep stp μ (out2 id) hD (fun x _ hn G hG => by
    rcases (he x).resolve_left hn with h1 | h1
    · have e : stp x = (.exit id, (stp x).2) := Prod.ext h1 rfl
      rw [e] at hG ⊢
      exact hG.2 rfl
    · have e : stp x = (.ret, (stp x).2) := Prod.ext h1 rfl
      rw [e] at hG ⊢
      exact hG.1 rfl) h
end
end Go.Ev
/- Letters of a text, and its bytes. -/
set_option linter.unusedVariables false
set_option linter.unusedSimpArgs false
namespace Go.Ev
def byteAt (y : List UInt8) (i : Nat) : Nat := (y.getD i 0).toNat
theorem get_byte (y : List UInt8) (i : Nat) : ((ByteArray.mk ⟨y⟩).get! i).toNat = byteAt y i := by
  show ((⟨y⟩ : Array UInt8)[i]!).toNat = _
  unfold byteAt
  rw [Array.getElem!_eq_getD, List.getD_eq_getElem?_getD]
  simp [Array.getD_eq_getD_getElem?]
  rfl
theorem byteAt_lt (y : List UInt8) (i : Nat) : byteAt y i < 256 := UInt8.toNat_lt _
theorem dec_eq (y : List UInt8) (i : Nat) : decL y i =
    (let cont (k : Nat) : Bool := i + k < y.length && byteAt y (i + k) / 64 == 2
    let b0 := byteAt y (i + 0)
    if b0 < 0x80 then (b0, 1)
    else if b0 / 32 == 6 && cont 1 then
      let c := (b0 % 32) * 64 + byteAt y (i + 1) % 64
      if c ≥ 0x80 then (c, 2) else (Utf8.runeError, 1)
    else if b0 / 16 == 14 && cont 1 && cont 2 then
      let c := (b0 % 16) * 4096 + (byteAt y (i + 1) % 64) * 64 + byteAt y (i + 2) % 64
      if c ≥ 0x800 && Utf8.valid c then (c, 3) else (Utf8.runeError, 1)
    else if b0 / 8 == 30 && cont 1 && cont 2 && cont 3 then
      let c := (b0 % 8) * 262144 + (byteAt y (i + 1) % 64) * 4096 + (byteAt y (i + 2) % 64) * 64 + byteAt y (i + 3) % 64
      if c ≥ 0x10000 && Utf8.valid c then (c, 4) else (Utf8.runeError, 1)
    else (Utf8.runeError, 1)) := by
  unfold decL Utf8.decode
  simp only [get_byte]
  rfl
/-- A byte of one letter. -/
theorem decL_low {y : List UInt8} {i : Nat} (h : byteAt y i < 128) : decL y i = (byteAt y i, 1) := by
  rw [dec_eq]
  simp only [Nat.add_zero]
  rw [if_pos h]
/-- A byte that is no letter alone: the letter is a great one, and what belongs to it is great, too. -/
theorem decL_high {y : List UInt8} {i : Nat} (h : ¬ byteAt y i < 128) : 128 ≤ (decL y i).1 ∧ ∀ j, i ≤ j → j < i + (decL y i).2 → 128 ≤ byteAt y j ∧ (i < j → j < y.length) := by
  have h0 := byteAt_lt y i
  rw [dec_eq]
  simp only [Nat.add_zero]
  rw [if_neg h]
  unfold Utf8.runeError
  have one : ∀ (P : Nat → Prop), (P i) → ∀ j, i ≤ j → j < i + 1 → P j := fun P hp j h1 h2 => by
    have : j = i := by omega
    rw [this]; exact hp
  have hi : 128 ≤ byteAt y i ∧ (i < i → i < y.length) := ⟨by omega, by omega⟩
  split
  · rename_i hc
    simp only [Bool.and_eq_true, beq_iff_eq, decide_eq_true_eq] at hc
    split
    · refine ⟨by simp only []; omega, fun j h1 h2 => ?_⟩
      simp only [] at h2
      have : j = i ∨ j = i + 1 := by omega
      rcases this with rfl | rfl
      · exact hi
      · exact ⟨by omega, fun _ => by omega⟩
    · exact ⟨by decide, one _ hi⟩
  split
  · rename_i hc
    simp only [Bool.and_eq_true, beq_iff_eq, decide_eq_true_eq] at hc
    split
    · rename_i hd
      simp only [Bool.and_eq_true, decide_eq_true_eq] at hd
      refine ⟨by simp only []; omega, fun j h1 h2 => ?_⟩
      simp only [] at h2
      have : j = i ∨ j = i + 1 ∨ j = i + 2 := by omega
      rcases this with rfl | rfl | rfl
      · exact hi
      · exact ⟨by omega, fun _ => by omega⟩
      · exact ⟨by omega, fun _ => by omega⟩
    · exact ⟨by decide, one _ hi⟩
  split
  · rename_i hc
    simp only [Bool.and_eq_true, beq_iff_eq, decide_eq_true_eq] at hc
    split
    · rename_i hd
      simp only [Bool.and_eq_true, decide_eq_true_eq] at hd
      refine ⟨by simp only []; omega, fun j h1 h2 => ?_⟩
      simp only [] at h2
      have : j = i ∨ j = i + 1 ∨ j = i + 2 ∨ j = i + 3 := by omega
      rcases this with rfl | rfl | rfl | rfl
      · exact hi
      · exact ⟨by omega, fun _ => by omega⟩
      · exact ⟨by omega, fun _ => by omega⟩
      · exact ⟨by omega, fun _ => by omega⟩
    · exact ⟨by decide, one _ hi⟩
  · exact ⟨by decide, one _ hi⟩
theorem drop_byte {y : List UInt8} {i : Nat} (h : i < y.length) : y.drop i = y.getD i 0 :: y.drop (i + 1) := by
  rw [List.drop_eq_getElem_cons h]
  simp [List.getD, h]
end Go.Ev
/- Commands as texts, in plain Lean. -/
set_option linter.unusedVariables false
set_option linter.unusedSimpArgs false
namespace Go.Ev
abbrev gCmd : GTy := .prod (.int .i64) (.prod (.int .i64) (.int .i64))
abbrev DCmd := Int × Int × Int
def crightF (c : DCmd) : Bool := bif !rightF c.2.1 then false else bif c.1 == (1 : Int) then withinF c.2.2 1 65536 else bif c.1 == (3 : Int) then withinF c.2.2 1 64 else bif (bif c.1 == (2 : Int) then c.1 == (2 : Int) else c.1 == (4 : Int)) then c.2.2 == (0 : Int) else false
def wordK (k : Int) : List UInt8 := bif k == (1 : Int) then [108, 105, 110, 107] else bif k == (2 : Int) then [99, 117, 116] else bif k == (3 : Int) then [115, 101, 110, 100] else bif k == (4 : Int) then [115, 104, 111, 119] else []
def cprintT (c : DCmd) : List UInt8 := bif decide (c.2.2 > (0 : Int)) then ((wordK c.1 ++ [32]) ++ textN (withF 0 c.2.1)) ++ ([32] ++ itoaF c.2.2) else (wordK c.1 ++ [32]) ++ textN (withF 0 c.2.1)
def cprintF (c : DCmd) : List UInt8 × Int := bif !crightF c then ([], 1) else (cprintT c, 0)
/-- Sets of nodes out of texts. -/
def npGo : List UInt8 → Int → Int → Option Int
  | [], s, _ => some s
  | b :: l, s, last => bif (bif decide ((b.toNat : Int) ≤ last) then true else decide ((b.toNat : Int) > 112)) then none else npGo l (withF s ((b.toNat : Int) - 97)) (b.toNat : Int)
def nparseF (s : List UInt8) : Int × Int := bif s == [46] then (0, 0) else match npGo s 0 96 with
  | none => (0, 3)
  | some v => bif v == 0 then (0, 3) else (v, 0)
/-- A number out of digits. -/
def numGo (top : Int) : List UInt8 → Int → Option Int
  | [], n => some n
  | b :: l, n => bif (bif decide ((b.toNat : Int) < 48) then true else bif decide ((b.toNat : Int) > 57) then true else decide (n > top)) then none else numGo top l (n * 10 + ((b.toNat : Int) - 48))
def numberF (s : List UInt8) : Int := match numGo 65536 s 0 with
  | none => -1
  | some n => bif s == [] then -1 else n
/-- A text's words. -/
def wordsGo : List UInt8 → List UInt8 → List (List UInt8)
  | [], cur => [cur]
  | b :: l, cur => bif b == 32 then cur :: wordsGo l [] else wordsGo l (cur ++ [b])
def wordsF (s : List UInt8) : List (List UInt8) := wordsGo s []
def kindF (w : List UInt8) : Int := bif wordK 4 == w then 4 else bif wordK 3 == w then 3 else bif wordK 2 == w then 2 else bif wordK 1 == w then 1 else 0
def lowestF (s : Int) : Int := match elemsF s 16 with
  | [] => -1
  | j :: _ => j
def cparseC (w : List (List UInt8)) : DCmd := (kindF (w.getD 0 []), lowestF (nparseF (w.getD 1 [])).1, bif (w.length : Int) == (3 : Int) then numberF (w.getD 2 []) else 0)
def cparseF (s : List UInt8) : DCmd × Int := bif decide ((s.length : Int) > 40) then ((0, 0, 0), 4) else
  bif (bif decide (((wordsF s).length : Int) < 2) then true else decide (((wordsF s).length : Int) > 3)) then ((0, 0, 0), 3) else
  bif (nparseF ((wordsF s).getD 1 [])).2 != (0 : Int) then ((0, 0, 0), 3) else
  bif (bif (cprintF (cparseC (wordsF s))).2 != (0 : Int) then true else !((cprintF (cparseC (wordsF s))).1 == s)) then ((0, 0, 0), 3) else (cparseC (wordsF s), 0)
/-! What is printed is parsed. -/
theorem words_end : ∀ (a cur : List UInt8), (∀ b ∈ a, b ≠ 32) → wordsGo a cur = [cur ++ a]
  | [], cur, _ => by simp [wordsGo]
  | b :: a, cur, h => by
    have hb : (b == 32) = false := by simpa using h b (by simp)
    rw [wordsGo, hb]
    show wordsGo a (cur ++ [b]) = _
    rw [words_end a (cur ++ [b]) (fun x hx => h x (by simp [hx])), List.append_assoc]
    rfl
theorem words_cons : ∀ (a cur l : List UInt8), (∀ b ∈ a, b ≠ 32) → wordsGo (a ++ 32 :: l) cur = (cur ++ a) :: wordsGo l []
  | [], cur, l, _ => by simp [wordsGo]
  | b :: a, cur, l, h => by
    have hb : (b == 32) = false := by simpa using h b (by simp)
    rw [List.cons_append, wordsGo, hb]
    show wordsGo (a ++ 32 :: l) (cur ++ [b]) = _
    rw [words_cons a (cur ++ [b]) l (fun x hx => h x (by simp [hx])), List.append_assoc]
    rfl
theorem node_cases {p : Int → Prop} {n : Int} (h0 : 0 ≤ n) (h1 : n < 16) (h : p 0 ∧ p 1 ∧ p 2 ∧ p 3 ∧ p 4 ∧ p 5 ∧ p 6 ∧ p 7 ∧ p 8 ∧ p 9 ∧ p 10 ∧ p 11 ∧ p 12 ∧ p 13 ∧ p 14 ∧ p 15) : p n := by
  obtain ⟨a0, a1, a2, a3, a4, a5, a6, a7, a8, a9, a10, a11, a12, a13, a14, a15⟩ := h
  have : n = 0 ∨ n = 1 ∨ n = 2 ∨ n = 3 ∨ n = 4 ∨ n = 5 ∨ n = 6 ∨ n = 7 ∨ n = 8 ∨ n = 9 ∨ n = 10 ∨ n = 11 ∨ n = 12 ∨ n = 13 ∨ n = 14 ∨ n = 15 := by omega
  rcases this with rfl | rfl | rfl | rfl | rfl | rfl | rfl | rfl | rfl | rfl | rfl | rfl | rfl | rfl | rfl | rfl <;> assumption
theorem one_text {n : Int} (h0 : 0 ≤ n) (h1 : n < 16) : textN (withF 0 n) = [letF n] ∧ nparseF [letF n] = (withF 0 n, 0) ∧ lowestF (withF 0 n) = n ∧ letF n ≠ 32 ∧ elemsF (withF 0 n) 16 = [n] :=
  node_cases (p := fun n => textN (withF 0 n) = [letF n] ∧ nparseF [letF n] = (withF 0 n, 0) ∧ lowestF (withF 0 n) = n ∧ letF n ≠ 32 ∧ elemsF (withF 0 n) 16 = [n]) h0 h1 (by refine ⟨?_, ?_, ?_, ?_, ?_, ?_, ?_, ?_, ?_, ?_, ?_, ?_, ?_, ?_, ?_, ?_⟩ <;> decide +kernel)
theorem num_more {top : Int} : ∀ (l : List UInt8) (n : Int) (b : UInt8), numGo top (l ++ [b]) n = match numGo top l n with
    | none => none
    | some m => bif (bif decide ((b.toNat : Int) < 48) then true else bif decide ((b.toNat : Int) > 57) then true else decide (m > top)) then none else some (m * 10 + ((b.toNat : Int) - 48))
  | [], n, b => by simp only [List.nil_append, numGo]
  | c :: l, n, b => by
    rw [List.cons_append, numGo, numGo]
    cases (bif decide ((c.toNat : Int) < 48) then true else bif decide ((c.toNat : Int) > 57) then true else decide (n > top)) with
    | true => rfl
    | false => exact num_more l _ b
theorem dig_toNat {d : Nat} (h : d < 10) : (UInt8.ofNat (48 + d)).toNat = 48 + d := by
  rw [UInt8.toNat_ofNat']; omega
theorem num_digits {top : Int} : ∀ (f n : Nat), n < 10 ^ f → 0 < f → ((n / 10 : Nat) : Int) ≤ top → numGo top (digN f n) 0 = some (n : Int)
  | 0, _, _, h, _ => absurd h (by omega)
  | f + 1, n, h, _, ht => by
    unfold digN
    by_cases h10 : n < 10
    · rw [show Nat.blt n 10 = true by rw [Nat.blt_eq]; exact h10]
      simp only [cond_true, numGo]
      rw [dig_toNat h10]
      have h0 : 0 ≤ top := by omega
      rw [decide_eq_false (by omega), decide_eq_false (by omega), decide_eq_false (by omega)]
      simp only [cond_false]
      congr 1
      omega
    · rw [show Nat.blt n 10 = false by
        cases hb : Nat.blt n 10 with
        | false => rfl
        | true => exact absurd (by rw [Nat.blt_eq] at hb; exact hb) h10]
      have hf : 0 < f := by
        rcases Nat.eq_zero_or_pos f with h0 | h0
        · subst h0; omega
        · exact h0
      have hd : n / 10 < 10 ^ f := by rw [Nat.pow_succ] at h; omega
      simp only [cond_false]
      rw [num_more, num_digits f (n / 10) hd hf (by omega)]
      simp only
      rw [dig_toNat (Nat.mod_lt _ (by omega))]
      have := Nat.mod_lt n (show 0 < 10 by omega)
      rw [decide_eq_false (by omega), decide_eq_false (by omega), decide_eq_false (by omega)]
      simp only [cond_false]
      congr 1
      omega
theorem digN_no : ∀ (f n : Nat), ∀ b ∈ digN f n, 48 ≤ b.toNat ∧ b.toNat ≤ 57
  | 0, _, b, h => by cases h
  | f + 1, n, b, h => by
    unfold digN at h
    cases hb : Nat.blt n 10 with
    | true =>
      rw [hb] at h
      have h10 : n < 10 := by rw [Nat.blt_eq] at hb; exact hb
      simp only [cond_true, List.mem_singleton] at h
      rw [h, dig_toNat h10]; omega
    | false =>
      rw [hb] at h
      simp only [cond_false, List.mem_append, List.mem_singleton] at h
      rcases h with h | h
      · exact digN_no f _ b h
      · have := Nat.mod_lt n (show 0 < 10 by omega)
        rw [h, dig_toNat this]; omega
theorem digN_ne : ∀ (f n : Nat), 0 < f → digN f n ≠ []
  | 0, _, h => absurd h (by omega)
  | f + 1, n, _ => by
    unfold digN
    cases Nat.blt n 10 <;> simp
theorem digN_short : ∀ (f n k : Nat), n < 10 ^ k → 0 < k → (digN f n).length ≤ k
  | 0, _, _, _, _ => by simp [digN]
  | f + 1, n, k, h, hk => by
    unfold digN
    cases hb : Nat.blt n 10 with
    | true => simp; omega
    | false =>
      have h10 : ¬ n < 10 := by rw [← Nat.blt_eq, hb]; simp
      obtain ⟨j, rfl⟩ : ∃ j, k = j + 1 := ⟨k - 1, by omega⟩
      have hj : 0 < j := by
        rcases Nat.eq_zero_or_pos j with h0 | h0
        · subst h0; omega
        · exact h0
      have hd : n / 10 < 10 ^ j := by rw [Nat.pow_succ] at h; omega
      have := digN_short f (n / 10) j hd hj
      simp only [cond_false, List.length_append, List.length_cons, List.length_nil]
      omega
theorem within_iff' {n a b : Int} : withinF n a b = true ↔ a ≤ n ∧ n ≤ b := by
  unfold withinF
  by_cases h : n ≥ a
  · rw [decide_eq_true h]
    show decide (n ≤ b) = true ↔ _
    rw [decide_eq_true_eq]
    exact ⟨fun h2 => ⟨h, h2⟩, fun h2 => h2.2⟩
  · rw [decide_eq_false h]
    exact ⟨(fun h2 => by cases h2), fun h2 => absurd h2.1 h⟩
theorem wordK_len (k : Int) : (wordK k).length ≤ 4 := by
  unfold wordK
  cases k == (1 : Int) <;> cases k == (2 : Int) <;> cases k == (3 : Int) <;> cases k == (4 : Int) <;> decide
theorem cright_of {c : DCmd} (h : crightF c = true) : 0 ≤ c.2.1 ∧ c.2.1 < 16 ∧ (c.1 = 1 ∧ 1 ≤ c.2.2 ∧ c.2.2 ≤ 65536 ∨ c.1 = 2 ∧ c.2.2 = 0 ∨ c.1 = 3 ∧ 1 ≤ c.2.2 ∧ c.2.2 ≤ 64 ∨ c.1 = 4 ∧ c.2.2 = 0) := by
  unfold crightF at h
  cases hr : rightF c.2.1 with
  | false => rw [hr] at h; cases h
  | true =>
    have hr' := rightF_iff.1 hr
    rw [hr] at h
    refine ⟨hr'.1, hr'.2, ?_⟩
    simp only [Bool.not_true, cond_false] at h
    by_cases h1 : c.1 = 1
    · have e : (c.1 == (1 : Int)) = true := by simpa using h1
      rw [e] at h
      simp only [cond_true] at h
      have := within_iff'.1 h
      exact .inl ⟨h1, this.1, this.2⟩
    · have e : (c.1 == (1 : Int)) = false := by simpa using h1
      rw [e] at h
      simp only [cond_false] at h
      by_cases h3 : c.1 = 3
      · have e : (c.1 == (3 : Int)) = true := by simpa using h3
        rw [e] at h
        simp only [cond_true] at h
        have := within_iff'.1 h
        exact .inr (.inr (.inl ⟨h3, this.1, this.2⟩))
      · have e : (c.1 == (3 : Int)) = false := by simpa using h3
        rw [e] at h
        simp only [cond_false] at h
        by_cases h2 : c.1 = 2
        · have e : (c.1 == (2 : Int)) = true := by simpa using h2
          rw [e] at h
          simp only [cond_true, beq_iff_eq] at h
          exact .inr (.inl ⟨h2, h⟩)
        · have e : (c.1 == (2 : Int)) = false := by simpa using h2
          rw [e] at h
          simp only [cond_false] at h
          by_cases h4 : c.1 = 4
          · have e : (c.1 == (4 : Int)) = true := by simpa using h4
            rw [e] at h
            simp only [cond_true, beq_iff_eq] at h
            exact .inr (.inr (.inr ⟨h4, h⟩))
          · have e : (c.1 == (4 : Int)) = false := by simpa using h4
            rw [e] at h
            cases h
/-- A right command's parts as it is printed. -/
theorem cprint_parts {c : DCmd} (h : crightF c = true) : cprintT c = wordK c.1 ++ 32 :: [letF c.2.1] ∧ c.2.2 = 0 ∨ cprintT c = wordK c.1 ++ 32 :: ([letF c.2.1] ++ 32 :: natT c.2.2.toNat) ∧ 1 ≤ c.2.2 ∧ c.2.2 ≤ 65536 := by
  obtain ⟨h0, h1, h2⟩ := cright_of h
  have ht := (one_text h0 h1).1
  unfold cprintT
  rw [ht]
  by_cases hn : c.2.2 > 0
  · right
    rw [decide_eq_true hn]
    have e : itoaF c.2.2 = natT c.2.2.toNat := by
      unfold itoaF
      rw [decide_eq_false (by omega)]
      rfl
    rw [e]
    refine ⟨by simp, by omega, ?_⟩
    rcases h2 with h2 | h2 | h2 | h2 <;> omega
  · left
    rw [decide_eq_false hn]
    refine ⟨by simp, ?_⟩
    rcases h2 with h2 | h2 | h2 | h2 <;> omega
theorem wordK_no {k : Int} (h : k = 1 ∨ k = 2 ∨ k = 3 ∨ k = 4) : (∀ b ∈ wordK k, b ≠ 32) ∧ kindF (wordK k) = k ∧ (wordK k).length ≤ 4 ∧ wordK k ≠ [] := by
  rcases h with rfl | rfl | rfl | rfl <;> decide +kernel
theorem cprint_words {c : DCmd} (h : crightF c = true) : wordsF (cprintT c) = [wordK c.1, [letF c.2.1]] ∧ c.2.2 = 0 ∨ wordsF (cprintT c) = [wordK c.1, [letF c.2.1], natT c.2.2.toNat] ∧ 1 ≤ c.2.2 ∧ c.2.2 ≤ 65536 := by
  obtain ⟨h0, h1, h2⟩ := cright_of h
  have hk := (wordK_no (k := c.1) (by rcases h2 with h2 | h2 | h2 | h2 <;> omega)).1
  have hl := (one_text h0 h1).2.2.2.1
  have hl' : ∀ b ∈ [letF c.2.1], b ≠ 32 := by simpa using hl
  rcases cprint_parts h with ⟨e, e2⟩ | ⟨e, e2⟩
  · left
    refine ⟨?_, e2⟩
    rw [e]
    unfold wordsF
    rw [words_cons _ _ _ hk, words_end _ _ hl']
    rfl
  · right
    refine ⟨?_, e2⟩
    rw [e]
    unfold wordsF
    rw [words_cons _ _ _ hk, words_cons _ _ _ hl', words_end _ _ (fun b hb => by
      have := digN_no _ _ b hb
      rintro rfl
      exact absurd this.1 (by decide))]
    rfl
theorem number_nat {n : Int} (h0 : 1 ≤ n) (h1 : n ≤ 65536) : numberF (natT n.toNat) = n := by
  unfold numberF natT
  rw [num_digits 20 n.toNat (by omega) (by omega) (by omega)]
  have : digN 20 n.toNat ≠ [] := digN_ne _ _ (by omega)
  have e : (digN 20 n.toNat == []) = false := by simpa using this
  rw [e]
  simp only [cond_false]
  omega
theorem cprint_len {c : DCmd} (h : crightF c = true) : (cprintT c).length ≤ 20 := by
  obtain ⟨h0, h1, h2⟩ := cright_of h
  have hk := (wordK_no (k := c.1) (by rcases h2 with h2 | h2 | h2 | h2 <;> omega)).2.2.1
  rcases cprint_parts h with ⟨e, e2⟩ | ⟨e, e2, e3⟩
  · rw [e]; simp; omega
  · have := digN_short 20 c.2.2.toNat 6 (by omega) (by omega)
    rw [e]; unfold natT; simp; omega
theorem cparse_print {c : DCmd} (h : crightF c = true) : cparseF (cprintT c) = (c, 0) := by
  obtain ⟨h0, h1, h2⟩ := cright_of h
  have hk := wordK_no (k := c.1) (by rcases h2 with h2 | h2 | h2 | h2 <;> omega)
  have hone := one_text h0 h1
  have hlen := cprint_len h
  have hc : cparseC (wordsF (cprintT c)) = c ∧ (wordsF (cprintT c)).length ≤ 3 ∧ 2 ≤ (wordsF (cprintT c)).length ∧ (wordsF (cprintT c)).getD 1 [] = [letF c.2.1] := by
    rcases cprint_words h with ⟨e, e2⟩ | ⟨e, e2, e3⟩
    · rw [e]
      refine ⟨?_, by simp, by simp, rfl⟩
      show (kindF (wordK c.1), lowestF (nparseF [letF c.2.1]).1, (0 : Int)) = c
      rw [hk.2.1, hone.2.1, hone.2.2.1, ← e2]
    · rw [e]
      refine ⟨?_, by simp, by simp, rfl⟩
      show (kindF (wordK c.1), lowestF (nparseF [letF c.2.1]).1, numberF (natT c.2.2.toNat)) = c
      rw [hk.2.1, hone.2.1, hone.2.2.1, number_nat e2 e3]
  obtain ⟨hc1, hc2, hc3, hc4⟩ := hc
  unfold cparseF
  rw [decide_eq_false (by omega), decide_eq_false (by omega), decide_eq_false (by omega), hc4, hone.2.1, hc1]
  have e : cprintF c = (cprintT c, 0) := by unfold cprintF; rw [h]; rfl
  rw [e]
  simp
theorem cparse_back {s : List UInt8} (h : ((cparseF s).2 == (0 : Int)) = true) : crightF (cparseF s).1 = true ∧ cprintT (cparseF s).1 = s := by
  unfold cparseF at h ⊢
  cases h1 : decide ((s.length : Int) > 40) with
  | true => rw [h1] at h; cases h
  | false =>
    rw [h1] at h
    simp only [cond_false] at h ⊢
    cases h2 : (bif decide (((wordsF s).length : Int) < 2) then true else decide (((wordsF s).length : Int) > 3)) with
    | true => rw [h2] at h; cases h
    | false =>
      rw [h2] at h
      simp only [cond_false] at h ⊢
      cases h3 : (nparseF ((wordsF s).getD 1 [])).2 != (0 : Int) with
      | true => rw [h3] at h; cases h
      | false =>
        rw [h3] at h
        simp only [cond_false] at h ⊢
        cases h4 : (bif (cprintF (cparseC (wordsF s))).2 != (0 : Int) then true else !((cprintF (cparseC (wordsF s))).1 == s)) with
        | true => rw [h4] at h; cases h
        | false =>
          simp only [cond_false]
          have hr : crightF (cparseC (wordsF s)) = true := by
            cases hr : crightF (cparseC (wordsF s)) with
            | true => rfl
            | false =>
              unfold cprintF at h4
              rw [hr] at h4
              cases h4
          refine ⟨hr, ?_⟩
          unfold cprintF at h4
          rw [hr] at h4
          simpa using h4
/-- What is no command's text is refused. -/
theorem cparse_none {s : List UInt8} (hl : ¬ (s.length : Int) > 40) (h : ∀ c, crightF c = true → cprintT c ≠ s) : cparseF s = ((0, 0, 0), 3) := by
  cases he : (cparseF s).2 == (0 : Int) with
  | true => exact absurd (cparse_back he).2 (h _ (cparse_back he).1)
  | false =>
    unfold cparseF at he ⊢
    rw [decide_eq_false hl] at he ⊢
    simp only [cond_false] at he ⊢
    cases h2 : (bif decide (((wordsF s).length : Int) < 2) then true else decide (((wordsF s).length : Int) > 3)) with
    | true => rfl
    | false =>
      rw [h2] at he
      simp only [cond_false] at he ⊢
      cases h3 : (nparseF ((wordsF s).getD 1 [])).2 != (0 : Int) with
      | true => rfl
      | false =>
        rw [h3] at he
        simp only [cond_false] at he ⊢
        cases h4 : (bif (cprintF (cparseC (wordsF s))).2 != (0 : Int) then true else !((cprintF (cparseC (wordsF s))).1 == s)) with
        | true => rfl
        | false => rw [h4] at he; cases he
theorem cparse_long {s : List UInt8} (hl : (s.length : Int) > 40) : cparseF s = ((0, 0, 0), 4) := by
  unfold cparseF
  rw [decide_eq_true hl]
  rfl
theorem cparse_zero {s : List UInt8} (h : ((cparseF s).2 != (0 : Int)) = true) : (cparseF s).1 = (0, 0, 0) := by
  unfold cparseF at h ⊢
  cases h1 : decide ((s.length : Int) > 40) with
  | true => rfl
  | false =>
    rw [h1] at h
    simp only [cond_false] at h ⊢
    cases h2 : (bif decide (((wordsF s).length : Int) < 2) then true else decide (((wordsF s).length : Int) > 3)) with
    | true => rfl
    | false =>
      rw [h2] at h
      simp only [cond_false] at h ⊢
      cases h3 : (nparseF ((wordsF s).getD 1 [])).2 != (0 : Int) with
      | true => rfl
      | false =>
        rw [h3] at h
        simp only [cond_false] at h ⊢
        cases h4 : (bif (cprintF (cparseC (wordsF s))).2 != (0 : Int) then true else !((cprintF (cparseC (wordsF s))).1 == s)) with
        | true => rfl
        | false => rw [h4] at h; cases h
theorem cprint_good {c : DCmd} (h : ((cprintF c).2 == (0 : Int)) = true) : crightF c = true := by
  unfold cprintF at h
  cases hr : crightF c with
  | true => rfl
  | false => rw [hr] at h; cases h
end Go.Ev
