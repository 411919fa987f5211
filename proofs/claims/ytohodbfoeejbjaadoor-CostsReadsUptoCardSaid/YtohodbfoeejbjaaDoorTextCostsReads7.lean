/- The least node of a set; sets of nodes out of texts, round by round. -/
import Derived.Lib.TrailingZeros
import Derived.Lib.ParseIntBCases
import Derived.Test.YtohodbfoeejbjaaDoorTextCostsReads6

set_option linter.unusedVariables false
set_option linter.unusedSimpArgs false
namespace Go.Ev
abbrev NpS := (Int × Int × Int × Int × Unit) × (List UInt8 × Nat) × Unit
def npStp (x : NpS) : Ex × NpS :=
  bif Nat.blt x.2.1.2 x.2.1.1.length then
    bif (bif decide (((decL x.2.1.1 x.2.1.2).1 : Int) ≤ x.1.2.2.2.1) then true else decide (((decL x.2.1.1 x.2.1.2).1 : Int) > 112)) then (.ret, ((0, 3, x.1.2.2.1, x.1.2.2.2.1, ()), (x.2.1.1, decN x.2.1.1 x.2.1.2), ()))
    else (.normal, ((x.1.1, x.1.2.1, withF x.1.2.2.1 (((decL x.2.1.1 x.2.1.2).1 : Int) - 97), ((decL x.2.1.1 x.2.1.2).1 : Int), ()), (x.2.1.1, decN x.2.1.1 x.2.1.2), ()))
  else (.exit 0, (x.1, (x.2.1.1, decN x.2.1.1 x.2.1.2), ()))
def npMu (x : NpS) : Nat := x.2.1.1.length - x.2.1.2
theorem blt_iff {a b : Nat} : Nat.blt a b = true ↔ a < b := by rw [Nat.blt_eq]
theorem blt_no {a b : Nat} (h : ¬ a < b) : Nat.blt a b = false := by
  cases hb : Nat.blt a b with
  | false => rfl
  | true => exact absurd (blt_iff.1 hb) h
theorem decN_go {y : List UInt8} {pos : Nat} (h : pos < y.length) : decN y pos = pos + (decL y pos).2 := by unfold decN; rw [blt_iff.2 h]; rfl
theorem decN_low {y : List UInt8} {pos : Nat} (h : pos < y.length) (hb : byteAt y pos < 128) : decN y pos = pos + 1 := by rw [decN_go h, decL_low hb]
theorem decN_lt {y : List UInt8} {pos : Nat} (h : Nat.blt pos y.length = true) : y.length - decN y pos < y.length - pos := by
  have h' := blt_iff.1 h
  have := decL_pos y pos
  rw [decN_go h']
  omega
theorem npStp_ends (x : NpS) : (npStp x).1 = .normal ∨ (npStp x).1 = .exit 0 ∨ (npStp x).1 = .ret := by
  unfold npStp
  cases Nat.blt x.2.1.2 x.2.1.1.length with
  | false => exact .inr (.inl rfl)
  | true => cases (bif decide (((decL x.2.1.1 x.2.1.2).1 : Int) ≤ x.1.2.2.2.1) then true else decide (((decL x.2.1.1 x.2.1.2).1 : Int) > 112)) with
    | true => exact .inr (.inr rfl)
    | false => exact .inl rfl
theorem np_mu {x : NpS} (h : (npStp x).1 = .normal) : npMu (npStp x).2 < npMu x := by
  unfold npStp at h ⊢
  cases hb : Nat.blt x.2.1.2 x.2.1.1.length with
  | false => rw [hb] at h; cases h
  | true =>
    rw [hb] at h
    cases hc : (bif decide (((decL x.2.1.1 x.2.1.2).1 : Int) ≤ x.1.2.2.2.1) then true else decide (((decL x.2.1.1 x.2.1.2).1 : Int) > 112)) with
    | true => rw [hc] at h; cases h
    | false => exact decN_lt hb
/-- What comes of it. -/
def npEnd (o : Option Int) (p : Ex × NpS) : Prop := match o with
  | none => p.1 = .ret ∧ p.2.1.1 = 0 ∧ p.2.1.2.1 = 3
  | some v => p.1 = .exit 0 ∧ p.2.1.2.2.1 = v
theorem np_run {y : List UInt8} {o : Option Int} : ∀ (n : Nat) (x : NpS), (x.2.1.1 = y ∧ npGo (y.drop x.2.1.2) x.1.2.2.1 x.1.2.2.2.1 = o) → npMu x < n → npEnd o (runF npStp n x) :=
  runF_inv fun x hx => by
    refine ⟨fun hn => ⟨?_, np_mu hn⟩, fun hn => ?_⟩
    · obtain ⟨⟨a, b, s, l, ⟨⟩⟩, ⟨y', pos⟩, ⟨⟩⟩ := x
      obtain ⟨h1, h2⟩ := hx
      simp only at h1 h2
      subst h1
      unfold npStp at hn ⊢
      simp only at hn ⊢
      cases hb : Nat.blt pos y'.length with
      | false => rw [hb] at hn; cases hn
      | true =>
        rw [hb] at hn
        have hlt := blt_iff.1 hb
        simp only [cond_true] at hn ⊢
        cases hc : (bif decide (((decL y' pos).1 : Int) ≤ l) then true else decide (((decL y' pos).1 : Int) > 112)) with
        | true => rw [hc] at hn; cases hn
        | false =>
          simp only [cond_false]
          refine ⟨trivial, ?_⟩
          by_cases hlow : byteAt y' pos < 128
          · rw [drop_byte hlt, npGo] at h2
            have e : ((y'.getD pos 0).toNat : Int) = ((decL y' pos).1 : Int) := by rw [decL_low hlow]; rfl
            rw [e, hc] at h2
            rw [decN_low hlt hlow]
            exact h2
          · have h3 := (decL_high hlow).1
            rw [decide_eq_true (show ((decL y' pos).1 : Int) > 112 by omega)] at hc
            cases hd : decide (((decL y' pos).1 : Int) ≤ l) <;> rw [hd] at hc <;> cases hc
    · obtain ⟨⟨a, b, s, l, ⟨⟩⟩, ⟨y', pos⟩, ⟨⟩⟩ := x
      obtain ⟨h1, h2⟩ := hx
      simp only at h1 h2
      subst h1
      unfold npStp at hn ⊢
      simp only at hn ⊢
      cases hb : Nat.blt pos y'.length with
      | false =>
        have hlt : ¬ pos < y'.length := fun h => by rw [blt_iff.2 h] at hb; cases hb
        rw [List.drop_eq_nil_of_le (by omega), npGo] at h2
        subst h2
        exact ⟨rfl, rfl⟩
      | true =>
        rw [hb] at hn
        have hlt := blt_iff.1 hb
        simp only [cond_true] at hn ⊢
        cases hc : (bif decide (((decL y' pos).1 : Int) ≤ l) then true else decide (((decL y' pos).1 : Int) > 112)) with
        | false => rw [hc] at hn; exact absurd rfl hn
        | true =>
          simp only [cond_true]
          have h3 : o = none := by
            rw [drop_byte hlt, npGo] at h2
            by_cases hlow : byteAt y' pos < 128
            · have e : ((y'.getD pos 0).toNat : Int) = ((decL y' pos).1 : Int) := by rw [decL_low hlow]; rfl
              rw [e, hc] at h2
              exact h2.symm
            · have hg : decide (((y'.getD pos 0).toNat : Int) > 112) = true := decide_eq_true (by
                have : byteAt y' pos = (y'.getD pos 0).toNat := rfl
                omega)
              rw [hg] at h2
              cases hd : decide (((y'.getD pos 0).toNat : Int) ≤ l) <;> rw [hd] at h2 <;> exact h2.symm
          subst h3
          exact ⟨rfl, rfl, rfl⟩
theorem np_all (y : List UInt8) (a b : Int) : npEnd (npGo y 0 96) (runF npStp (npMu ((a, b, 0, 96, ()), (y, 0), ()) + 1) ((a, b, 0, 96, ()), (y, 0), ())) :=
  np_run _ _ ⟨rfl, rfl⟩ (by omega)
/-! The least node -/
theorem tz_at {n : Nat} (hn0 : n ≠ 0) (hn : n < 18446744073709551616) {a : Nat} (hlow : n &&& (18446744073709551616 - n) = a) :
    Int.fdiv (IntKind.wrap IntKind.u64 (bitsOp BinOp.and IntKind.u64 (n : Int) (IntKind.wrap IntKind.u64 ((0 : Int) - (n : Int))) * 285870213051353865)) 288230376151711744 = ((a * 285870213051353865 % 18446744073709551616 / 288230376151711744 : Nat) : Int) := by
  have ha : a ≤ n := by rw [← hlow]; exact Nat.and_le_left
  have e1 : IntKind.wrap IntKind.u64 ((0 : Int) - (n : Int)) = ((18446744073709551616 - n : Nat) : Int) := by
    rw [wrap_u64]
    omega
  have e2 : bitsOp BinOp.and IntKind.u64 (n : Int) ((18446744073709551616 - n : Nat) : Int) = (a : Int) := by
    show IntKind.u64.wrap ((BitVec.ofInt 64 (n : Int) &&& BitVec.ofInt 64 ((18446744073709551616 - n : Nat) : Int)).toNat : Int) = _
    rw [BitVec.toNat_and, BitVec.toNat_ofInt, BitVec.toNat_ofInt]
    have a1 : ((n : Int) % ((2 ^ 64 : Nat) : Int)).toNat = n := by omega
    have a2 : (((18446744073709551616 - n : Nat) : Int) % ((2 ^ 64 : Nat) : Int)).toNat = 18446744073709551616 - n := by omega
    rw [a1, a2, hlow, wrap_u64]
    omega
  rw [e1, e2, wrap_u64, Int.fdiv_eq_ediv_of_nonneg _ (by decide), Int.natCast_ediv, Int.natCast_emod, Int.natCast_mul]
  rfl
theorem tab_at (i : Nat) : List.getD lowTab (Int.toNat (i : Int)) 0 = ((Lib.deBruijn64tab.getD i 0 : Nat) : Int) := by
  rw [Int.toNat_natCast]
  unfold lowTab
  generalize Lib.deBruijn64tab = l
  simp only [List.getD_eq_getElem?_getD, List.getElem?_map]
  cases l[i]? <;> rfl
theorem tz_key {x : Int} (h0 : 0 < x) (h1 : x ≤ 18446744073709551615) :
    ((0 : Int) ≤ Int.fdiv (IntKind.wrap IntKind.u64 (bitsOp BinOp.and IntKind.u64 x (IntKind.wrap IntKind.u64 ((0 : Int) - x)) * 285870213051353865)) 288230376151711744 ∧
      Int.fdiv (IntKind.wrap IntKind.u64 (bitsOp BinOp.and IntKind.u64 x (IntKind.wrap IntKind.u64 ((0 : Int) - x)) * 285870213051353865)) 288230376151711744 < 64) ∧
    IntKind.wrap IntKind.i64 (List.getD lowTab (Int.toNat (Int.fdiv (IntKind.wrap IntKind.u64 (bitsOp BinOp.and IntKind.u64 x (IntKind.wrap IntKind.u64 ((0 : Int) - x)) * 285870213051353865)) 288230376151711744)) 0) = (Lib.ctz 64 x.toNat : Int) := by
  obtain ⟨n, rfl⟩ := Int.eq_ofNat_of_zero_le (Int.le_of_lt h0)
  have hn0 : n ≠ 0 := by omega
  have hn : n < 18446744073709551616 := by omega
  obtain ⟨hlow, hk⟩ := Lib.lowest_bit 64 n hn0 hn
  obtain ⟨hi, htab⟩ := Lib.deBruijn64_at _ hk
  rw [tz_at hn0 hn hlow, tab_at, htab, Int.toNat_natCast]
  generalize 2 ^ Lib.ctz 64 n * 285870213051353865 % 18446744073709551616 / 288230376151711744 = i at hi ⊢
  generalize Lib.ctz 64 n = k at hk ⊢
  exact ⟨⟨by omega, by omega⟩, i64_id (by omega) (by omega)⟩
theorem elems_head {s : Int} {k : Nat} (hk : k < 16) (h : hasF s k = true) (hb : ∀ j : Nat, j < k → hasF s j = false) : ∀ n : Nat, n ≤ 16 → 16 - n ≤ k → ∃ l, elemsF s n = (k : Int) :: l
  | 0, _, h1 => by omega
  | n + 1, h0, h1 => by
    unfold elemsF
    by_cases e : 16 - (n + 1) = k
    · have e2 : (16 : Int) - ((n + 1 : Nat) : Int) = (k : Int) := by omega
      rw [e2, h]
      exact ⟨_, rfl⟩
    · obtain ⟨l, hl⟩ := elems_head hk h hb n (by omega) (by omega)
      have e2 : (16 : Int) - ((n + 1 : Nat) : Int) = ((16 - (n + 1) : Nat) : Int) := by omega
      rw [e2, hb _ (by omega), hl]
      exact ⟨_, rfl⟩
theorem has_bit {s : Int} {j : Nat} (hj : j < 16) : hasF s j = (((s % 65536).toNat / 2 ^ j) % 2 == 1) := by
  unfold hasF
  rw [right_nat hj]
  simp only [cond_true]
  rw [bit_at hj]
  have h0 := Int.emod_nonneg s (show (65536 : Int) ≠ 0 by decide)
  have h1 : (s / ((2 ^ j : Nat) : Int)) % 2 = (((s % 65536).toNat / 2 ^ j % 2 : Nat) : Int) := by
    have e : ((s % 65536).toNat : Int) = s % 65536 := Int.toNat_of_nonneg h0
    have hk : j = 0 ∨ j = 1 ∨ j = 2 ∨ j = 3 ∨ j = 4 ∨ j = 5 ∨ j = 6 ∨ j = 7 ∨ j = 8 ∨ j = 9 ∨ j = 10 ∨ j = 11 ∨ j = 12 ∨ j = 13 ∨ j = 14 ∨ j = 15 := by omega
    rcases hk with rfl | rfl | rfl | rfl | rfl | rfl | rfl | rfl | rfl | rfl | rfl | rfl | rfl | rfl | rfl | rfl <;> (simp only [Nat.reducePow]; omega)
  rw [h1, Bool.eq_iff_iff]
  simp only [beq_iff_eq]
  omega
theorem low_none {x : Int} (h : (bitsOp BinOp.and IntKind.i64 x (65535 : Int) == (0 : Int)) = true) : (-1 : Int) = lowestF x := by
  rw [mask_empty] at h
  unfold lowestF
  rw [List.isEmpty_iff.1 h]
theorem low_some {x : Int} (h : (bitsOp BinOp.and IntKind.i64 x (65535 : Int) == (0 : Int)) = false) :
    0 < IntKind.wrap IntKind.u64 (bitsOp BinOp.and IntKind.i64 x (65535 : Int)) ∧ (Lib.ctz 64 (Int.toNat (IntKind.wrap IntKind.u64 (bitsOp BinOp.and IntKind.i64 x (65535 : Int)))) : Int) = lowestF x := by
  have hm : bitsOp BinOp.and IntKind.i64 x (65535 : Int) = x % 65536 := and_low (s := x) 16 (by omega)
  rw [hm] at h ⊢
  have h0 := Int.emod_nonneg x (show (65536 : Int) ≠ 0 by decide)
  have h1 := Int.emod_lt_of_pos x (show (0 : Int) < 65536 by decide)
  have hne : x % 65536 ≠ 0 := by simpa using h
  have e : IntKind.wrap IntKind.u64 (x % 65536) = x % 65536 := u64_id h0 (by omega)
  rw [e]
  refine ⟨by omega, ?_⟩
  obtain ⟨n, hn⟩ : ∃ n, (x % 65536).toNat = n := ⟨_, rfl⟩
  have hn0 : n ≠ 0 := by omega
  have hn1 : n < 65536 := by omega
  rw [hn]
  have hc : Lib.ctz 64 n = Lib.ctzFrom 64 n := by simp [Lib.ctz, hn0]
  obtain ⟨m, hm2, hk⟩ := Lib.ctzFrom_spec 64 n (by omega) (by omega)
  rw [hc]
  generalize Lib.ctzFrom 64 n = k at hm2 hk ⊢
  have hk16 : k < 16 := by
    by_cases hkk : k < 16
    · exact hkk
    · exfalso
      have : 2 ^ 16 ≤ 2 ^ k := Nat.pow_le_pow_right (by omega) (by omega)
      have h3 : 2 ^ k ≤ 2 ^ k * (2 * m + 1) := Nat.le_mul_of_pos_right _ (by omega)
      omega
  have hb : hasF x k = true := by
    rw [has_bit hk16, hn, hm2, Nat.mul_div_cancel_left _ (Nat.pow_pos (by omega))]
    simp
  have hnb : ∀ j : Nat, j < k → hasF x j = false := by
    intro j hj
    rw [has_bit (by omega), hn, hm2]
    have e2 : 2 ^ k = 2 ^ j * (2 * 2 ^ (k - j - 1)) := by
      rw [← Nat.pow_succ', ← Nat.pow_add]
      congr 1
      omega
    rw [e2, Nat.mul_assoc, Nat.mul_div_cancel_left _ (Nat.pow_pos (by omega)), Nat.mul_assoc]
    simp
  obtain ⟨l, hl⟩ := elems_head hk16 hb hnb 16 (by omega) (by omega)
  unfold lowestF
  rw [hl]
end Go.Ev
/- Words and numbers of a text, round by round. -/
set_option linter.unusedVariables false
set_option linter.unusedSimpArgs false
namespace Go.Ev
/-! Numbers -/
def badD (top r n : Int) : Bool := bif (bif decide (r < 48) then true else decide (r > 57)) then true else decide (n > top)
abbrev NumS := (Int × Int × Unit) × (List UInt8 × Nat) × Unit
def numStp (x : NumS) : Ex × NumS :=
  bif Nat.blt x.2.1.2 x.2.1.1.length then
    bif badD 65536 ((decL x.2.1.1 x.2.1.2).1 : Int) x.1.2.1 then (.ret, ((-1, x.1.2.1, ()), (x.2.1.1, decN x.2.1.1 x.2.1.2), ()))
    else (.normal, ((x.1.1, x.1.2.1 * 10 + (((decL x.2.1.1 x.2.1.2).1 : Int) - 48), ()), (x.2.1.1, decN x.2.1.1 x.2.1.2), ()))
  else (.exit 0, (x.1, (x.2.1.1, decN x.2.1.1 x.2.1.2), ()))
def numMu (x : NumS) : Nat := x.2.1.1.length - x.2.1.2
theorem badD_eq (top r n : Int) : badD top r n = (bif decide (r < 48) then true else bif decide (r > 57) then true else decide (n > top)) := by
  unfold badD
  cases decide (r < 48) <;> rfl
theorem badD_high {top r n : Int} (h : 128 ≤ r) : badD top r n = true := by
  unfold badD
  rw [decide_eq_true (show r > 57 by omega)]
  cases decide (r < 48) <;> rfl
theorem badD_no {top r n : Int} (h : badD top r n = false) : 48 ≤ r ∧ r ≤ 57 ∧ n ≤ top := by
  unfold badD at h
  by_cases h1 : r < 48
  · rw [decide_eq_true h1] at h; cases h
  · by_cases h2 : r > 57
    · rw [decide_eq_false h1, decide_eq_true h2] at h; cases h
    · by_cases h3 : n > top
      · rw [decide_eq_false h1, decide_eq_false h2, decide_eq_true h3] at h; cases h
      · omega
theorem numStp_ends (x : NumS) : (numStp x).1 = .normal ∨ (numStp x).1 = .exit 0 ∨ (numStp x).1 = .ret := by
  unfold numStp
  cases Nat.blt x.2.1.2 x.2.1.1.length with
  | false => exact .inr (.inl rfl)
  | true => cases badD 65536 ((decL x.2.1.1 x.2.1.2).1 : Int) x.1.2.1 with
    | true => exact .inr (.inr rfl)
    | false => exact .inl rfl
theorem num_go {x : NumS} (h : (numStp x).1 = .normal) (h0 : 0 ≤ x.1.2.1 ∧ x.1.2.1 ≤ 655369) : (0 ≤ (numStp x).2.1.2.1 ∧ (numStp x).2.1.2.1 ≤ 655369) ∧ numMu (numStp x).2 < numMu x := by
  unfold numStp at h ⊢
  cases hb : Nat.blt x.2.1.2 x.2.1.1.length with
  | false => rw [hb] at h; cases h
  | true =>
    rw [hb] at h
    cases hc : badD 65536 ((decL x.2.1.1 x.2.1.2).1 : Int) x.1.2.1 with
    | true => rw [hc] at h; cases h
    | false =>
      have := badD_no hc
      refine ⟨?_, decN_lt hb⟩
      simp only [cond_true, cond_false]
      omega
def numEnd (o : Option Int) (p : Ex × NumS) : Prop := match o with
  | none => p.1 = .ret ∧ p.2.1.1 = -1
  | some v => p.1 = .exit 0 ∧ p.2.1.2.1 = v
theorem num_run {y : List UInt8} {o : Option Int} : ∀ (n : Nat) (x : NumS), (x.2.1.1 = y ∧ numGo 65536 (y.drop x.2.1.2) x.1.2.1 = o) → numMu x < n → numEnd o (runF numStp n x) :=
  runF_inv fun x hx => by
    obtain ⟨⟨a, s, ⟨⟩⟩, ⟨y', pos⟩, ⟨⟩⟩ := x
    obtain ⟨h1, h2⟩ := hx
    simp only at h1 h2
    subst h1
    cases hb : Nat.blt pos y'.length with
    | false =>
      have hlt : ¬ pos < y'.length := fun h => by rw [blt_iff.2 h] at hb; cases hb
      have e : numStp ((a, s, ()), (y', pos), ()) = (.exit 0, ((a, s, ()), (y', decN y' pos), ())) := by unfold numStp; simp only; rw [hb]; rfl
      rw [e]
      refine ⟨fun h => (by cases h), fun _ => ?_⟩
      rw [List.drop_eq_nil_of_le (by omega), numGo] at h2
      subst h2
      exact ⟨rfl, rfl⟩
    | true =>
      have hlt := blt_iff.1 hb
      rw [drop_byte hlt, numGo] at h2
      cases hc : badD 65536 ((decL y' pos).1 : Int) s with
      | true =>
        have e : numStp ((a, s, ()), (y', pos), ()) = (.ret, ((-1, s, ()), (y', decN y' pos), ())) := by unfold numStp; simp only; rw [hb, hc]; rfl
        rw [e]
        refine ⟨fun h => (by cases h), fun _ => ?_⟩
        have h3 : o = none := by
          by_cases hlow : byteAt y' pos < 128
          · have e : ((y'.getD pos 0).toNat : Int) = ((decL y' pos).1 : Int) := by rw [decL_low hlow]; rfl
            rw [e, ← badD_eq, hc] at h2
            exact h2.symm
          · rw [← badD_eq, badD_high (by have : byteAt y' pos = (y'.getD pos 0).toNat := rfl; omega)] at h2
            exact h2.symm
        subst h3
        exact ⟨rfl, rfl⟩
      | false =>
        have e : numStp ((a, s, ()), (y', pos), ()) = (.normal, ((a, s * 10 + (((decL y' pos).1 : Int) - 48), ()), (y', decN y' pos), ())) := by unfold numStp; simp only; rw [hb, hc]; rfl
        rw [e]
        refine ⟨fun _ => ⟨⟨rfl, ?_⟩, decN_lt hb⟩, fun h => absurd rfl h⟩
        by_cases hlow : byteAt y' pos < 128
        · have e : ((y'.getD pos 0).toNat : Int) = ((decL y' pos).1 : Int) := by rw [decL_low hlow]; rfl
          rw [e, ← badD_eq, hc] at h2
          simp only
          rw [decN_low hlt hlow]
          exact h2
        · rw [badD_high (by have := (decL_high hlow).1; omega)] at hc
          cases hc
theorem num_all (y : List UInt8) (a : Int) : numEnd (numGo 65536 y 0) (runF numStp (numMu ((a, 0, ()), (y, 0), ()) + 1) ((a, 0, ()), (y, 0), ())) :=
  num_run _ _ ⟨rfl, rfl⟩ (by omega)
/-! Words -/
abbrev WS := (List UInt8 × Int × Unit) × List (List UInt8) × (List UInt8 × Nat) × Unit
def wStp (x : WS) : Ex × WS :=
  bif Nat.blt x.2.2.1.2 x.2.2.1.1.length then
    bif ((decL x.2.2.1.1 x.2.2.1.2).1 : Int) == (32 : Int) then (.normal, ((x.1.1, (x.2.2.1.2 : Int) + 1, ()), x.2.1 ++ [(x.1.1.take x.2.2.1.2).drop x.1.2.1.toNat], (x.2.2.1.1, decN x.2.2.1.1 x.2.2.1.2), ()))
    else (.normal, (x.1, x.2.1, (x.2.2.1.1, decN x.2.2.1.1 x.2.2.1.2), ()))
  else (.exit 0, (x.1, x.2.1, (x.2.2.1.1, decN x.2.2.1.1 x.2.2.1.2), ()))
def wMu (x : WS) : Nat := x.2.2.1.1.length - x.2.2.1.2
def wPre (x : WS) : Prop := x.2.2.1.1 = x.1.1 ∧ x.1.1.length ≤ 1000 ∧ 0 ≤ x.1.2.1 ∧ x.1.2.1 ≤ x.2.2.1.2 ∧ x.2.2.1.2 ≤ x.1.1.length ∧ x.2.1.length ≤ x.2.2.1.2
theorem wStp_ends (x : WS) : (wStp x).1 = .normal ∨ (wStp x).1 = .exit 0 := by
  unfold wStp
  cases Nat.blt x.2.2.1.2 x.2.2.1.1.length with
  | false => exact .inr rfl
  | true => cases ((decL x.2.2.1.1 x.2.2.1.2).1 : Int) == (32 : Int) <;> exact .inl rfl
theorem decN_le {y : List UInt8} {pos : Nat} (h : pos ≤ y.length) : decN y pos ≤ y.length := by
  by_cases hlt : pos < y.length
  · rw [decN_go hlt]
    by_cases hlow : byteAt y pos < 128
    · rw [decL_low hlow]; simp only; omega
    · have h2 := decL_pos y pos
      by_cases h1 : (decL y pos).2 = 1
      · omega
      · have := ((decL_high hlow).2 (pos + (decL y pos).2 - 1) (by omega) (by omega)).2 (by omega)
        omega
  · unfold decN
    rw [blt_no hlt]
    exact h
theorem w_go {x : WS} (hp : wPre x) (h : (wStp x).1 = .normal) : wPre (wStp x).2 ∧ wMu (wStp x).2 < wMu x := by
  obtain ⟨⟨s, st, ⟨⟩⟩, out, ⟨y, pos⟩, ⟨⟩⟩ := x
  obtain ⟨h1, h2, h3, h4, h5, h6⟩ := hp
  simp only at h1 h2 h3 h4 h5 h6
  subst h1
  have hle := decN_le h5
  cases hb : Nat.blt pos y.length with
  | false => unfold wStp at h; simp only at h; rw [hb] at h; cases h
  | true =>
    have hlt := blt_iff.1 hb
    have hN := decN_go hlt
    have hp := decL_pos y pos
    unfold wStp
    simp only
    rw [hb]
    cases hc : ((decL y pos).1 : Int) == (32 : Int) with
    | true =>
      simp only [cond_true]
      refine ⟨⟨rfl, h2, ?_, ?_, hle, ?_⟩, decN_lt hb⟩
      all_goals simp only
      · omega
      · omega
      · show (out ++ [_]).length ≤ decN y pos
        simp only [List.length_append, List.length_cons, List.length_nil]; omega
    | false =>
      simp only [cond_true, cond_false]
      refine ⟨⟨rfl, h2, h3, ?_, hle, ?_⟩, decN_lt hb⟩
      all_goals simp only
      · omega
      · omega
theorem take_more {s : List UInt8} {i : Nat} (h : i < s.length) : s.take (i + 1) = s.take i ++ [s.getD i 0] := by
  rw [List.take_add_one]
  simp [List.getD, h]
/-- Bytes that are no blank. -/
theorem words_skip {s : List UInt8} {st : Nat} : ∀ (k pos : Nat), st ≤ pos → pos + k ≤ s.length → (∀ j, pos ≤ j → j < pos + k → byteAt s j ≠ 32) → wordsGo (s.drop pos) ((s.take pos).drop st) = wordsGo (s.drop (pos + k)) ((s.take (pos + k)).drop st)
  | 0, pos, _, _, _ => rfl
  | k + 1, pos, h1, h2, h3 => by
    have hlt : pos < s.length := by omega
    have hb : (s.getD pos 0 == 32) = false := by
      have := h3 pos (Nat.le_refl _) (by omega)
      unfold byteAt at this
      simp only [beq_eq_false_iff_ne, ne_eq]
      intro e
      rw [e] at this
      exact this rfl
    rw [drop_byte hlt, wordsGo, hb]
    simp only [cond_false]
    have e : (s.take pos).drop st ++ [s.getD pos 0] = (s.take (pos + 1)).drop st := by
      rw [take_more hlt, List.drop_append_of_le_length (by rw [List.length_take]; omega)]
    rw [e, words_skip k (pos + 1) (by omega) (by omega) (fun j h4 h5 => h3 j (by omega) (by omega)), show pos + 1 + k = pos + (k + 1) by omega]
def wEnd (s : List UInt8) (p : Ex × WS) : Prop := p.1 = .exit 0 ∧ p.2.1.1 = s ∧ 0 ≤ p.2.1.2.1 ∧ p.2.1.2.1 ≤ s.length ∧ p.2.2.1.length ≤ s.length ∧ p.2.2.1 ++ [s.drop p.2.1.2.1.toNat] = wordsF s
theorem w_run {s : List UInt8} : ∀ (n : Nat) (x : WS), (wPre x ∧ x.1.1 = s ∧ x.2.1 ++ wordsGo (s.drop x.2.2.1.2) ((s.take x.2.2.1.2).drop x.1.2.1.toNat) = wordsF s) → wMu x < n → wEnd s (runF wStp n x) :=
  runF_inv fun x hx => by
    obtain ⟨hp, h1, h2⟩ := hx
    refine ⟨fun hn => ?_, fun hn => ?_⟩
    · obtain ⟨g1, g2⟩ := w_go hp hn
      refine ⟨⟨g1, ?_⟩, g2⟩
      obtain ⟨⟨s', st, ⟨⟩⟩, out, ⟨y, pos⟩, ⟨⟩⟩ := x
      obtain ⟨p1, p2, p3, p4, p5, p6⟩ := hp
      simp only at h1 h2 p1 p2 p3 p4 p5 p6
      subst p1
      subst h1
      cases hb : Nat.blt pos y.length with
      | false => unfold wStp at hn; simp only at hn; rw [hb] at hn; cases hn
      | true =>
        have hlt := blt_iff.1 hb
        cases hc : ((decL y pos).1 : Int) == (32 : Int) with
        | true =>
          have e : wStp ((y, st, ()), out, (y, pos), ()) = (.normal, ((y, (pos : Int) + 1, ()), out ++ [(y.take pos).drop st.toNat], (y, decN y pos), ())) := by unfold wStp; simp only; rw [hb, hc]; rfl
          rw [e]
          refine ⟨rfl, ?_⟩
          have hr : (decL y pos).1 = 32 := by
            have : ((decL y pos).1 : Int) = 32 := by simpa using hc
            omega
          have hlow : byteAt y pos < 128 := by
            by_cases hlow : byteAt y pos < 128
            · exact hlow
            · have := (decL_high hlow).1
              omega
          rw [decL_low hlow] at hr
          have hg : y.getD pos 0 = 32 := by
            apply UInt8.toNat_inj.1
            exact hr
          simp only
          rw [decN_low hlt hlow]
          rw [drop_byte hlt, wordsGo, hg] at h2
          have e2 : ((pos : Int) + 1).toNat = pos + 1 := by omega
          rw [e2, List.append_assoc]
          have e3 : (y.take (pos + 1)).drop (pos + 1) = [] := by
            apply List.drop_eq_nil_of_le
            rw [List.length_take]; omega
          rw [e3]
          simpa using h2
        | false =>
          have e : wStp ((y, st, ()), out, (y, pos), ()) = (.normal, ((y, st, ()), out, (y, decN y pos), ())) := by unfold wStp; simp only; rw [hb, hc]; rfl
          rw [e]
          refine ⟨rfl, ?_⟩
          simp only
          have hle := decN_le p5
          have hN := decN_go hlt
          rw [← h2]
          congr 1
          rw [hN] at hle ⊢
          refine (words_skip _ pos (by omega) hle fun j h3 h4 => ?_).symm
          by_cases hlow : byteAt y pos < 128
          · rw [decL_low hlow] at hc h4
            have hj : j = pos := by simp only at h4; omega
            rw [hj]
            have : ¬ ((byteAt y pos : Nat) : Int) = 32 := by simpa using hc
            omega
          · have := ((decL_high hlow).2 j h3 h4).1
            omega
    · obtain ⟨⟨s', st, ⟨⟩⟩, out, ⟨y, pos⟩, ⟨⟩⟩ := x
      obtain ⟨p1, p2, p3, p4, p5, p6⟩ := hp
      simp only at h1 h2 p1 p2 p3 p4 p5 p6
      subst p1
      subst h1
      cases hb : Nat.blt pos y.length with
      | true =>
        exfalso
        apply hn
        unfold wStp
        simp only
        rw [hb]
        cases ((decL y pos).1 : Int) == (32 : Int) <;> rfl
      | false =>
        have hlt : ¬ pos < y.length := fun h => by rw [blt_iff.2 h] at hb; cases hb
        have e : wStp ((y, st, ()), out, (y, pos), ()) = (.exit 0, ((y, st, ()), out, (y, decN y pos), ())) := by unfold wStp; simp only; rw [hb]; rfl
        rw [e]
        have hpos : pos = y.length := by omega
        refine ⟨rfl, rfl, p3, by simp only; omega, by simp only; omega, ?_⟩
        rw [hpos, List.drop_length, List.take_length, wordsGo] at h2
        exact h2
theorem w_all {s : List UInt8} (h : s.length ≤ 1000) : wEnd s (runF wStp (wMu ((s, 0, ()), [], (s, 0), ()) + 1) ((s, 0, ()), [], (s, 0), ())) :=
  w_run _ _ ⟨⟨rfl, h, Int.le_refl _, Int.le_refl _, Nat.zero_le _, Nat.le_refl _⟩, rfl, rfl⟩ (by omega)
end Go.Ev
/- Trees read: the steps. -/
set_option linter.unusedVariables false
set_option linter.unusedSimpArgs false
namespace Go.Ev
def letB (c : Int) : Int := bif (bif decide (c < 97) then true else decide (c > 112)) then -1 else c - 97
/-- What a numeral says; is it none? -/
def puF (s : List UInt8) : Int × Bool := match Lib.parseUintB 32 s with
  | .ok u => ((u : Int), false)
  | .range => (4294967295, true)
  | _ => (0, true)
def puPre (x : List UInt8 × Int × Int) : Prop := x.1.length ≤ 1000 ∧ x.2.1 = 10 ∧ x.2.2 = 32
theorem puF_in (s : List UInt8) : 0 ≤ (puF s).1 ∧ (puF s).1 ≤ 4294967295 := by
  unfold puF
  cases h : Lib.parseUintB 32 s with
  | ok u =>
    have : u ≤ 4294967295 := Lib.parseUintB_le h
    exact ⟨by simp only; omega, by simp only; omega⟩
  | range => exact ⟨by decide, by decide⟩
  | _ => exact ⟨by decide, by decide⟩
theorem letB_in (c : Int) : letB c = -1 ∨ 0 ≤ letB c ∧ letB c < 16 := by
  unfold letB
  by_cases h1 : c < 97
  · rw [decide_eq_true h1]; exact .inl rfl
  · by_cases h2 : c > 112
    · rw [decide_eq_false h1, decide_eq_true h2]; exact .inl rfl
    · rw [decide_eq_false h1, decide_eq_false h2]
      right
      show 0 ≤ c - 97 ∧ c - 97 < 16
      omega
theorem letB_wrap {c : Int} (h0 : 0 ≤ c) (h1 : c ≤ 255) (h : (bif decide (c < 97) then true else decide (c > 112)) = false) : IntKind.wrap IntKind.i64 (IntKind.wrap IntKind.u8 (c - 97)) = c - 97 := by
  by_cases h2 : c < 97
  · rw [decide_eq_true h2] at h; cases h
  · rw [show IntKind.wrap IntKind.u8 (c - 97) = c - 97 from u8_id (by omega) (by omega)]
    exact i64_id (by omega) (by omega)
/-- The end of the digits. -/
abbrev EnS := (List UInt8 × Int × Unit) × Unit
def isDg (c : Int) : Bool := bif decide (c ≥ 48) then decide (c ≤ 57) else false
def dgLen : List UInt8 → Nat
  | [] => 0
  | b :: l => bif isDg (b.toNat : Int) then dgLen l + 1 else 0
def enStp : EnS → Ex × EnS
  | ((s, i, _), _) => bif (bif decide (i < (s.length : Int)) then isDg ((byteAt s i.toNat : Nat) : Int) else false) then (.normal, ((s, i + 1, ()), ())) else (.exit 0, ((s, i, ()), ()))
def enMu (x : EnS) : Nat := x.1.1.length - x.1.2.1.toNat
def enPre (x : EnS) : Prop := 0 ≤ x.1.2.1 ∧ x.1.2.1 ≤ x.1.1.length ∧ x.1.1.length ≤ 1000
theorem enStp_ends (x : EnS) : (enStp x).1 = .normal ∨ (enStp x).1 = .exit 0 := by
  obtain ⟨⟨s, i, ⟨⟩⟩, ⟨⟩⟩ := x
  unfold enStp
  simp only
  cases (bif decide (i < (s.length : Int)) then isDg ((byteAt s i.toNat : Nat) : Int) else false) <;> simp
theorem en_go {x : EnS} (hp : enPre x) (h : (enStp x).1 = .normal) : enPre (enStp x).2 ∧ enMu (enStp x).2 < enMu x := by
  obtain ⟨⟨s, i, ⟨⟩⟩, ⟨⟩⟩ := x
  obtain ⟨h1, h2, h3⟩ := hp
  simp only at h1 h2 h3
  unfold enStp at h ⊢
  simp only at h ⊢
  cases hc : (bif decide (i < (s.length : Int)) then isDg ((byteAt s i.toNat : Nat) : Int) else false) with
  | false => rw [hc] at h; cases h
  | true =>
    have hlt : i < (s.length : Int) := by
      by_cases hlt : i < (s.length : Int)
      · exact hlt
      · rw [decide_eq_false hlt] at hc; cases hc
    refine ⟨⟨?_, ?_, h3⟩, ?_⟩
    · show 0 ≤ i + 1; omega
    · show i + 1 ≤ (s.length : Int); omega
    · show s.length - (i + 1).toNat < s.length - i.toNat; omega
theorem dgLen_le : ∀ l : List UInt8, dgLen l ≤ l.length
  | [] => Nat.le_refl _
  | b :: l => by
    unfold dgLen
    cases isDg (b.toNat : Int) with
    | true => have := dgLen_le l; simp only [cond_true, List.length_cons]; omega
    | false => simp
theorem en_run {s : List UInt8} : ∀ (n i : Nat), i ≤ s.length → s.length - i < n → runF enStp n ((s, (i : Int), ()), ()) = (.exit 0, ((s, ((i + dgLen (s.drop i) : Nat) : Int), ()), ()))
  | 0, _, _, h => by omega
  | n + 1, i, h1, h2 => by
    by_cases hlt : i < s.length
    · have hd := drop_byte hlt
      cases hg : isDg ((byteAt s i : Nat) : Int) with
      | true =>
        have e : enStp ((s, (i : Int), ()), ()) = (.normal, ((s, ((i + 1 : Nat) : Int), ()), ())) := by
          unfold enStp
          simp only
          rw [decide_eq_true (show (i : Int) < (s.length : Int) by omega), Int.toNat_natCast, hg]
          rfl
        rw [runF_go e, en_run n (i + 1) (by omega) (by omega), hd]
        have hg' : isDg (((s.getD i 0).toNat : Nat) : Int) = true := hg
        rw [dgLen, hg']
        simp only [cond_true]
        rw [show i + 1 + dgLen (s.drop (i + 1)) = i + (dgLen (s.drop (i + 1)) + 1) by omega]
      | false =>
        have e : enStp ((s, (i : Int), ()), ()) = (.exit 0, ((s, (i : Int), ()), ())) := by
          unfold enStp
          simp only
          rw [decide_eq_true (show (i : Int) < (s.length : Int) by omega), Int.toNat_natCast, hg]
          rfl
        rw [runF_end (by rw [e]; intro h; cases h), e, hd]
        have hg' : isDg (((s.getD i 0).toNat : Nat) : Int) = false := hg
        rw [dgLen, hg']
        rfl
    · have e : enStp ((s, (i : Int), ()), ()) = (.exit 0, ((s, (i : Int), ()), ())) := by
        unfold enStp
        simp only
        rw [decide_eq_false (show ¬ (i : Int) < (s.length : Int) by omega)]
        rfl
      rw [runF_end (by rw [e]; intro h; cases h), e, List.drop_eq_nil_of_le (by omega)]
      rfl
def endN (s : List UInt8) : Nat := 1 + dgLen (s.drop 1)
theorem en_all {s : List UInt8} (h : 1 ≤ s.length) : runF enStp (enMu ((s, 1, ()), ()) + 1) ((s, 1, ()), ()) = (.exit 0, ((s, (endN s : Int), ()), ())) := by
  have := en_run (s := s) (enMu ((s, 1, ()), ()) + 1) 1 h (by unfold enMu; simp only; omega)
  exact this
theorem endN_in {s : List UInt8} (h : 1 ≤ s.length) : 1 ≤ endN s ∧ endN s ≤ s.length := by
  unfold endN
  have := dgLen_le (s.drop 1)
  rw [List.length_drop] at this
  omega
/-- A destination, its entry, what follows; is it one? -/
def entBad (s : List UInt8) : Bool := bif (bif (bif decide (letB (byteAt s 0 : Nat) < 0) then true else (puF ((s.take (endN s)).drop 1)).2) then true else decide ((s.length : Int) < (endN s : Int) + 2)) then true else (byteAt s (endN s + 1) : Int) != (32 : Int)
def entBad2 (s : List UInt8) : Bool := bif decide (letB (byteAt s (endN s) : Nat) < 0) then (byteAt s (endN s) : Int) != (46 : Int) else false
def entF (s : List UInt8) : Int × DEnt × List UInt8 × Bool :=
  bif entBad s then (0, (0, 0), [], false) else bif entBad2 s then (0, (0, 0), [], false)
  else (letB (byteAt s 0 : Nat), ((puF ((s.take (endN s)).drop 1)).1, letB (byteAt s (endN s) : Nat)), s.drop (endN s + 2), true)
def goodE (e : DEnt) : Prop := (e.2 = -1 ∨ 0 ≤ e.2 ∧ e.2 < 16) ∧ 0 ≤ e.1 ∧ e.1 ≤ 4294967295
def goodT (t : List DEnt) : Prop := t.length = 16 ∧ ∀ j, j < 16 → goodE (entAt t j)
theorem ent_good {s : List UInt8} (h : (entF s).2.2.2 = true) : 0 ≤ (entF s).1 ∧ (entF s).1 < 16 ∧ goodE (entF s).2.1 ∧ (entF s).2.2.1.length < s.length := by
  unfold entF at h ⊢
  cases h1 : entBad s with
  | true => rw [h1] at h; cases h
  | false =>
    rw [h1] at h
    simp only [cond_false] at h ⊢
    cases h2 : entBad2 s with
    | true => rw [h2] at h; cases h
    | false =>
      simp only [cond_false]
      unfold entBad at h1
      have hl : ¬ letB (byteAt s 0 : Nat) < 0 := fun hl => by rw [decide_eq_true hl] at h1; cases h1
      rw [decide_eq_false hl] at h1
      simp only [cond_false] at h1
      cases hp : (puF ((s.take (endN s)).drop 1)).2 with
      | true => rw [hp] at h1; cases h1
      | false =>
        rw [hp] at h1
        simp only [cond_false] at h1
        have hlen : ¬ (s.length : Int) < (endN s : Int) + 2 := fun hl => by rw [decide_eq_true hl] at h1; cases h1
        have hin := letB_in (byteAt s 0 : Nat)
        refine ⟨by omega, by omega, ⟨letB_in _, puF_in _⟩, ?_⟩
        simp only [List.length_drop]
        omega
/-! The program's loop -/
def zeroT : List DEnt := List.replicate 16 (0, 0)
abbrev TpS := (Int × List UInt8 × Unit) × List DEnt × List DEnt × Unit
def tpStp : TpS → Ex × TpS
  | ((e, r, _), t2, t4, _) => bif !(r == []) then
      bif !(entF r).2.2.2 then (.ret, ((3, r, ()), zeroT, t4, ())) else (.normal, ((e, (entF r).2.2.1, ()), t2, t4.set (entF r).1.toNat (entF r).2.1, ()))
    else (.exit 0, ((e, r, ()), t2, t4, ()))
def tpMu (x : TpS) : Nat := x.1.2.1.length
def tpPre (x : TpS) : Prop := x.1.2.1.length ≤ 1000
theorem tpStp_ends (x : TpS) : (tpStp x).1 = .normal ∨ (tpStp x).1 = .exit 0 ∨ (tpStp x).1 = .ret := by
  obtain ⟨⟨e, r, ⟨⟩⟩, t2, t4, ⟨⟩⟩ := x
  unfold tpStp
  simp only
  cases !(r == []) <;> cases (entF r).2.2.2 <;> simp
theorem tp_go {x : TpS} (hp : tpPre x) (h : (tpStp x).1 = .normal) : tpPre (tpStp x).2 ∧ tpMu (tpStp x).2 < tpMu x := by
  obtain ⟨⟨e, r, ⟨⟩⟩, t2, t4, ⟨⟩⟩ := x
  have hp' : r.length ≤ 1000 := hp
  unfold tpStp at h ⊢
  simp only at h ⊢
  cases hb : !(r == []) with
  | false => rw [hb] at h; cases h
  | true =>
    rw [hb] at h
    simp only [cond_true] at h ⊢
    cases hk : (entF r).2.2.2 with
    | false => rw [hk] at h; cases h
    | true =>
      have := (ent_good hk).2.2.2
      refine ⟨?_, ?_⟩
      · show (entF r).2.2.1.length ≤ 1000; omega
      · show (entF r).2.2.1.length < r.length; omega
theorem good_set {t : List DEnt} {i : Nat} {e : DEnt} (h : goodT t) (hi : i < 16) (he : goodE e) : goodT (t.set i e) := by
  refine ⟨by rw [List.length_set]; exact h.1, fun j hj => ?_⟩
  rw [ent_set (by rw [h.1]; exact hi)]
  split
  · exact he
  · exact h.2 j hj
/-- What the loop comes to: where it leaves the function, zero and 3; else a good tree. -/
theorem tp_inv : ∀ (n : Nat) (x : TpS), (goodT x.2.2.1) → tpMu x < n → ((isRet (runF tpStp n x).1 = true → (runF tpStp n x).2.2.1 = zeroT ∧ (runF tpStp n x).2.1.1 = 3) ∧ goodT (runF tpStp n x).2.2.2.1) :=
  fun n x hx hn => runF_inv (stp := tpStp) (J := fun x => goodT x.2.2.1) (Post := fun p => (isRet p.1 = true → p.2.2.1 = zeroT ∧ p.2.1.1 = 3) ∧ goodT p.2.2.2.1) (μ := tpMu) (fun x hx => by
    obtain ⟨⟨e, r, ⟨⟩⟩, t2, t4, ⟨⟩⟩ := x
    unfold tpStp
    simp only
    cases hb : !(r == []) with
    | false => exact ⟨nofun, fun _ => ⟨nofun, hx⟩⟩
    | true =>
      simp only [cond_true]
      cases hk : (entF r).2.2.2 with
      | false => exact ⟨nofun, fun _ => ⟨fun _ => ⟨rfl, rfl⟩, hx⟩⟩
      | true =>
        obtain ⟨g1, g2, g3, g4⟩ := ent_good hk
        exact ⟨fun _ => ⟨good_set hx (by omega) g3, g4⟩, fun h => absurd rfl h⟩) n x hx hn
/-! A told tree, read -/
def plainE (e : DEnt) : Prop := e.2 = -1 ∨ 0 ≤ e.2 ∧ e.2 < 16 ∧ e.1 ≠ 4294967295
def plainT (t : List DEnt) : Prop := goodT t ∧ ∀ j, j < 16 → plainE (entAt t j)
def pchar (p : Int) : UInt8 := bif decide (0 ≤ p) then letF p else 46
theorem pchar_text {p : Int} (h : p = -1 ∨ 0 ≤ p ∧ p < 16) : textN (withF 0 p) = [pchar p] := by
  rcases h with rfl | ⟨h0, h1⟩
  · decide +kernel
  · unfold pchar
    rw [decide_eq_true h0]
    exact (one_text h0 h1).1
theorem pchar_no {p : Int} (h : p = -1 ∨ 0 ≤ p ∧ p < 16) : isDg ((pchar p).toNat : Int) = false ∧ letB ((pchar p).toNat : Int) = p ∧ (decide (letB ((pchar p).toNat : Int) < 0) = true → (((pchar p).toNat : Int) != (46 : Int)) = false) := by
  rcases h with rfl | ⟨h0, h1⟩
  · decide +kernel
  · exact node_cases (p := fun p => isDg ((pchar p).toNat : Int) = false ∧ letB ((pchar p).toNat : Int) = p ∧ (decide (letB ((pchar p).toNat : Int) < 0) = true → (((pchar p).toNat : Int) != (46 : Int)) = false)) h0 h1 (by refine ⟨?_, ?_, ?_, ?_, ?_, ?_, ?_, ?_, ?_, ?_, ?_, ?_, ?_, ?_, ?_, ?_⟩ <;> decide +kernel)
theorem letF_B {n : Int} (h0 : 0 ≤ n) (h1 : n < 16) : letB ((letF n).toNat : Int) = n :=
  node_cases (p := fun n => letB ((letF n).toNat : Int) = n) h0 h1 (by refine ⟨?_, ?_, ?_, ?_, ?_, ?_, ?_, ?_, ?_, ?_, ?_, ?_, ?_, ?_, ?_, ?_⟩ <;> decide +kernel)
theorem pu_more {M : Nat} : ∀ (l : List UInt8) (a : Nat) (b : UInt8), Lib.parseUintM M a (l ++ [b]) = match Lib.parseUintM M a l with
    | .ok m => if 48 ≤ b.toNat ∧ b.toNat ≤ 57 then (if 1844674407370955162 ≤ m then .range else if M < m * 10 + (b.toNat - 48) then .range else .ok (m * 10 + (b.toNat - 48))) else Lib.parseUintB 32 []
    | r => r
  | [], a, b => by
    simp only [List.nil_append, Lib.parseUintM]
    rfl
  | c :: l, a, b => by
    rw [List.cons_append, Lib.parseUintM, Lib.parseUintM]
    split
    · split
      · rfl
      · split
        · rfl
        · exact pu_more l _ b
    · rfl
theorem pu_digits {M : Nat} (hM : M < 18446744073709551610) : ∀ (f n : Nat), n < 10 ^ f → 0 < f → n ≤ M → Lib.parseUintM M 0 (digN f n) = .ok n
  | 0, _, _, h, _ => absurd h (by omega)
  | f + 1, n, h, _, ht => by
    unfold digN
    by_cases h10 : n < 10
    · rw [show Nat.blt n 10 = true by rw [Nat.blt_eq]; exact h10]
      simp only [cond_true, Lib.parseUintM]
      rw [dig_toNat h10, if_pos (by omega), if_neg (by omega), if_neg (by omega)]
      congr 1
      omega
    · rw [show Nat.blt n 10 = false by
        cases hb : Nat.blt n 10 with
        | false => rfl
        | true => exact absurd (by rw [Nat.blt_eq] at hb; exact hb) h10]
      have hf : 0 < f := by
        rcases Nat.eq_zero_or_pos f with h0 | h0
        · subst h0; omega
        · exact h0
      have hd : n / 10 < 10 ^ f := by rw [Nat.pow_succ] at h; omega
      have := Nat.mod_lt n (show 0 < 10 by omega)
      simp only [cond_false]
      rw [pu_more, pu_digits hM f (n / 10) hd hf (by omega)]
      simp only
      rw [dig_toNat this, if_pos (by omega), if_neg (by omega), if_neg (by omega)]
      congr 1
      omega
theorem pu_nat {n : Int} (h0 : 0 ≤ n) (h1 : n ≤ 4294967295) : puF (natT n.toNat) = (n, false) := by
  unfold puF Lib.parseUintB natT
  rw [if_neg (digN_ne _ _ (by omega)), pu_digits (by decide) 20 n.toNat (by omega) (by omega) (by simp; omega)]
  simp only
  rw [Int.toNat_of_nonneg h0]
theorem dg_digits : ∀ (w : List UInt8) (b : UInt8) (l : List UInt8), (∀ c ∈ w, 48 ≤ c.toNat ∧ c.toNat ≤ 57) → isDg (b.toNat : Int) = false → dgLen (w ++ b :: l) = w.length
  | [], b, l, _, h => by
    show (bif isDg (b.toNat : Int) then _ else 0) = 0
    rw [h]; rfl
  | c :: w, b, l, hw, h => by
    have hc := hw c (by simp)
    have e : isDg (c.toNat : Int) = true := by
      unfold isDg
      rw [decide_eq_true (by omega), decide_eq_true (by omega)]; rfl
    show (bif isDg (c.toNat : Int) then dgLen (w ++ b :: l) + 1 else 0) = _
    rw [e, dg_digits w b l (fun x hx => hw x (by simp [hx])) h]
    rfl
/-- An entry as it is told. -/
theorem entB_parts {t : List DEnt} {j : Int} (h0 : 0 ≤ j) (h1 : j < 16) (hg : goodE (entAt t j.toNat)) : entB t j = letF j :: (natT (entAt t j.toNat).1.toNat ++ [pchar (entAt t j.toNat).2, 32]) := by
  unfold entB
  rw [(one_text h0 h1).1, pchar_text hg.1]
  simp
theorem ent_read {t : List DEnt} {j : Int} {l : List UInt8} (h0 : 0 ≤ j) (h1 : j < 16) (hg : goodE (entAt t j.toNat)) : entF (entB t j ++ l) = (j, entAt t j.toNat, l, true) := by
  rw [entB_parts h0 h1 hg]
  obtain ⟨p1, p2, p3⟩ := pchar_no hg.1
  have hn := pu_nat hg.2.1 hg.2.2
  generalize hw : natT (entAt t j.toNat).1.toNat = w at hn ⊢
  have hdig : ∀ c ∈ w, 48 ≤ c.toNat ∧ c.toNat ≤ 57 := fun c hc => digN_no _ _ c (by rw [← hw] at hc; exact hc)
  generalize hs : (letF j :: (w ++ [pchar (entAt t j.toNat).2, 32])) ++ l = s
  have hs' : s = letF j :: (w ++ (pchar (entAt t j.toNat).2 :: (32 :: l))) := by rw [← hs]; simp
  have hend : endN s = 1 + w.length := by
    unfold endN
    rw [hs']
    show 1 + dgLen (w ++ (pchar (entAt t j.toNat).2 :: (32 :: l))) = _
    rw [dg_digits w _ _ hdig p1]
  have b0 : byteAt s 0 = (letF j).toNat := by rw [hs']; rfl
  have b1 : byteAt s (1 + w.length) = (pchar (entAt t j.toNat).2).toNat := by
    rw [hs', Nat.add_comm]
    unfold byteAt
    simp [List.getD_eq_getElem?_getD, List.getElem?_append_right]
  have b2 : byteAt s (1 + w.length + 1) = 32 := by
    rw [hs', show 1 + w.length + 1 = (w.length + 1) + 1 by omega]
    unfold byteAt
    simp [List.getD_eq_getElem?_getD, List.getElem?_append_right]
  have hmid : (s.take (1 + w.length)).drop 1 = w := by
    rw [hs', Nat.add_comm, List.take_succ_cons, List.drop_succ_cons, List.drop_zero, List.take_left' rfl]
  have hdrop : s.drop (1 + w.length + 2) = l := by
    rw [hs', show 1 + w.length + 2 = (w.length + 2) + 1 by omega, List.drop_succ_cons, List.drop_append]
    simp
  have hlen : s.length = 1 + w.length + 2 + l.length := by rw [hs']; simp; omega
  have hj := letF_B h0 h1
  have e1 : entBad s = false := by
    unfold entBad
    rw [hend, b0, hj, hmid, hn, b2, decide_eq_false (by omega), decide_eq_false (by omega)]
    rfl
  have e2 : entBad2 s = false := by
    unfold entBad2
    rw [hend, b1]
    cases hd : decide (letB ((pchar (entAt t j.toNat).2).toNat : Int) < 0) with
    | true => exact p3 hd
    | false => rfl
  unfold entF
  rw [e1, e2, hend, b0, hj, b1, p2, hmid, hn, hdrop]
  rfl
end Go.Ev
/- Sets of nodes out of texts; the least node of a set. -/
set_option linter.unusedVariables false
set_option linter.unusedSimpArgs false
namespace Go.Ev.D
open Go.Proofs
def tz64C : Ctr := { args := [.int .u64], res := [.int .i64], pre := some (fun (x : Int) => 0 < x), fn := fun (x : Int) => (Lib.ctz 64 x.toNat : Int) }
theorem tz64_tree : (fun x : Int => evFn (mkC tys [] []) (fnOf Tryd.prog 165) (resL tz64C.args x) tz64C.res) =
  (fun x =>
    Tree.br (x == (0 : Int)) (Tree.leaf (64 : Int))
      (Tree.need
        ((0 : Int) ≤ Int.fdiv (IntKind.wrap IntKind.u64 (bitsOp BinOp.and IntKind.u64 x (IntKind.wrap IntKind.u64 ((0 : Int) - x)) * (285870213051353865 : Int))) (288230376151711744 : Int) ∧
          Int.fdiv (IntKind.wrap IntKind.u64 (bitsOp BinOp.and IntKind.u64 x (IntKind.wrap IntKind.u64 ((0 : Int) - x)) * (285870213051353865 : Int))) (288230376151711744 : Int) < (64 : Int))
        (Tree.leaf
          (IntKind.wrap IntKind.i64
            (List.getD lowTab
              (Int.toNat (Int.fdiv (IntKind.wrap IntKind.u64 (bitsOp BinOp.and IntKind.u64 x (IntKind.wrap IntKind.u64 ((0 : Int) - x)) * (285870213051353865 : Int))) (288230376151711744 : Int)))
              (0 : Int)))))) := by kernel_rfl
theorem tz64_ok : CtrOK Tryd.prog 165 tz64C :=
  fun_ok (G := []) (Λ := []) tysOK ctrs_nil mixed (by kernel_rfl) (by kernel_rfl) (by kernel_rfl) (by kernel_rfl) lp_nil fun (x : Int) hw hp => by
    have hp' : 0 < (x : Int) := hp (fun (x : Int) => 0 < x) rfl
    have hu : IntKind.u64.has x := hw
    rw [has_u64] at hu
    rw [congrFun tz64_tree x]
    simp only [Tree.holds]
    have key := tz_key hp' hu.2
    refine ⟨fun h => ?_, fun _ => ⟨key.1, key.2⟩⟩
    have : x = 0 := by simpa using h
    omega
def tzG : List (Nat × Ctr) := [(165, tz64C)]
theorem tzG_ok : CtrsOK Tryd.prog (fun f => lk f tzG) := (ctrs_cons tz64_ok ctrs_nil)
def tzC : Ctr := { args := [.int .u64], res := [.int .i64], pre := some (fun (x : Int) => 0 < x), fn := fun (x : Int) => (Lib.ctz 64 x.toNat : Int) }
theorem tz_tree : (fun x : Int => evFn (mkC tys tzG []) (fnOf Tryd.prog 143) (resL tzC.args x) tzC.res) =
  (fun x => Tree.br false Tree.stuck (Tree.need ((0 : Int) < x) (Tree.leaf (↑(Lib.ctz (64 : Nat) (Int.toNat x)) : Int)))) := by kernel_rfl
theorem tz_ok : CtrOK Tryd.prog 143 tzC :=
  fun_ok (G := tzG) (Λ := []) tysOK tzG_ok mixed (by kernel_rfl) (by kernel_rfl) (by kernel_rfl) (by kernel_rfl) lp_nil fun (x : Int) hw hp => by
    have hp' : 0 < (x : Int) := hp (fun (x : Int) => 0 < x) rfl
    rw [congrFun tz_tree x]
    simp only [Tree.holds]
    exact ⟨nofun, fun _ => ⟨hp', rfl⟩⟩
def lowestG : List (Nat × Ctr) := [(143, tzC)]
theorem lowestG_ok : CtrsOK Tryd.prog (fun f => lk f lowestG) := (ctrs_cons tz_ok ctrs_nil)
def lowestC : Ctr := { args := [.int .i64], res := [.int .i64], pre := none, fn := fun (x : Int) => lowestF x }
theorem lowest_tree : (fun x : Int => evFn (mkC tys lowestG []) (fnOf Tryd.prog 120) (resL lowestC.args x) lowestC.res) =
  (fun x =>
    Tree.br (bitsOp BinOp.and IntKind.i64 x (65535 : Int) == (0 : Int)) (Tree.leaf (-1 : Int))
      (Tree.need ((0 : Int) < IntKind.wrap IntKind.u64 (bitsOp BinOp.and IntKind.i64 x (65535 : Int)))
        (Tree.leaf (↑(Lib.ctz (64 : Nat) (Int.toNat (IntKind.wrap IntKind.u64 (bitsOp BinOp.and IntKind.i64 x (65535 : Int))))) : Int)))) := by kernel_rfl
theorem lowest_ok : CtrOK Tryd.prog 120 lowestC :=
  fun_ok (G := lowestG) (Λ := []) tysOK lowestG_ok mixed (by kernel_rfl) (by kernel_rfl) (by kernel_rfl) (by kernel_rfl) lp_nil fun (x : Int) hw hp => by
    rw [congrFun lowest_tree x]
    have e : lowestC.fn x = lowestF x := rfl
    rw [e]
    simp only [Tree.holds]
    exact ⟨fun h => low_none h, fun h => low_some h⟩
def nparseG : List (Nat × Ctr) := [(100, withC)]
theorem nparseG_ok : CtrsOK Tryd.prog (fun f => lk f nparseG) := (ctrs_cons with_ok ctrs_nil)
def npD : LoopD where
  prom := []
  ts := [(2, .val (.int .i64)), (3, .val (.int .i64)), (4, .val (.int .i64)), (5, .val (.int .i32)), (11, .ptr 11 .unit)]
  bs := [(11, .iter)]
  pre := fun (x : (Int × Int × Int × Int × Unit) × (List UInt8 × Nat) × Unit) => True
  out := fun (x : (Int × Int × Int × Int × Unit) × (List UInt8 × Nat) × Unit) => out2 0 (runF npStp (npMu x + 1) x)
theorem nparse_round : (fun x : (Int × Int × Int × Int × Unit) × (List UInt8 × Nat) × Unit => roundOf (mkC tys nparseG [(0, npD.spec)]) npD (loopB 0 (bodyOf (fnOf Tryd.prog 119))) x) =
  (fun x =>
    Tree.br (Nat.blt x.2.1.2 (List.length x.2.1.1))
      (Tree.need (Nat.blt x.2.1.2 (List.length x.2.1.1) = true)
        (Tree.br (bif decide ((↑(decL x.2.1.1 x.2.1.2).1 : Int) ≤ x.1.2.2.2.1) then true else decide ((↑(decL x.2.1.1 x.2.1.2).1 : Int) > (112 : Int)))
          (Tree.leaf (Ex.ret, some (((0 : Int), (3 : Int), x.1.2.2.1, x.1.2.2.2.1, ()), (x.2.1.1, decN x.2.1.1 x.2.1.2), ())))
          (Tree.leaf
            (Ex.normal,
              some
                ((x.1.1, x.1.2.1, withF x.1.2.2.1 (IntKind.wrap IntKind.i64 (IntKind.wrap IntKind.i32 ((↑(decL x.2.1.1 x.2.1.2).1 : Int) - (97 : Int)))), (↑(decL x.2.1.1 x.2.1.2).1 : Int), ()),
                  (x.2.1.1, decN x.2.1.1 x.2.1.2), ())))))
      (Tree.leaf (Ex.exit (0 : Nat), some ((x.1.1, x.1.2.1, x.1.2.2.1, x.1.2.2.2.1, ()), (x.2.1.1, decN x.2.1.1 x.2.1.2), ())))) := by kernel_rfl
theorem nparse_loop : LoopOK (mkC tys nparseG [(0, npD.spec)]) npD.spec (loopB 0 (bodyOf (fnOf Tryd.prog 119))) :=
  loopF2_ok (id := 0) (D := npD) (fun x => congrFun nparse_round x) npStp npMu (fun _ => rfl) npStp_ends fun (x : (Int × Int × Int × Int × Unit) × (List UInt8 × Nat) × Unit) _ => by
    obtain ⟨⟨a, b, s, l, ⟨⟩⟩, ⟨y, pos⟩, ⟨⟩⟩ := x
    have hr := decL_lt y pos
    have e : IntKind.wrap IntKind.i64 (IntKind.wrap IntKind.i32 (((decL y pos).1 : Int) - 97)) = ((decL y pos).1 : Int) - 97 := by
      rw [show IntKind.wrap IntKind.i32 (((decL y pos).1 : Int) - 97) = ((decL y pos).1 : Int) - 97 from i32_id (by omega) (by omega)]
      exact i64_id (by omega) (by omega)
    refine ⟨?_, fun hn => ⟨trivial, np_mu hn⟩⟩
    simp only [Tree.holds, npStp]
    rw [e]
    refine ⟨fun h => ⟨h, fun h2 => ?_, fun h2 => ?_⟩, fun h => ?_⟩
    · rw [h, h2]; rfl
    · rw [h, h2]; rfl
    · rw [h]; rfl
theorem nparse_tree : (fun x : List UInt8 => evFn (mkC tys nparseG [(0, npD.spec)]) (fnOf Tryd.prog 119) (resL [.str] x) [.int .i64, .int .i64]) =
  (fun x =>
    Tree.br (x == [(46 : UInt8)]) (Tree.leaf ((0 : Int), (0 : Int)))
      (Tree.need True
        (Tree.br
          (isRet
            (runF npStp (npMu (((0 : Int), (0 : Int), (0 : Int), (96 : Int), PUnit.unit), (x, (0 : Nat)), PUnit.unit) + (1 : Nat))
                (((0 : Int), (0 : Int), (0 : Int), (96 : Int), PUnit.unit), (x, (0 : Nat)), PUnit.unit)).1)
          (Tree.leaf
            ((runF npStp (npMu (((0 : Int), (0 : Int), (0 : Int), (96 : Int), PUnit.unit), (x, (0 : Nat)), PUnit.unit) + (1 : Nat))
                      (((0 : Int), (0 : Int), (0 : Int), (96 : Int), PUnit.unit), (x, (0 : Nat)), PUnit.unit)).2.1.1,
              (runF npStp (npMu (((0 : Int), (0 : Int), (0 : Int), (96 : Int), PUnit.unit), (x, (0 : Nat)), PUnit.unit) + (1 : Nat))
                        (((0 : Int), (0 : Int), (0 : Int), (96 : Int), PUnit.unit), (x, (0 : Nat)), PUnit.unit)).2.1.2.1))
          (Tree.br
            ((runF npStp (npMu (((0 : Int), (0 : Int), (0 : Int), (96 : Int), PUnit.unit), (x, (0 : Nat)), PUnit.unit) + (1 : Nat))
                          (((0 : Int), (0 : Int), (0 : Int), (96 : Int), PUnit.unit), (x, (0 : Nat)), PUnit.unit)).2.1.2.2.1 ==
              (0 : Int))
            (Tree.leaf ((0 : Int), (3 : Int)))
            (Tree.leaf
              ((runF npStp (npMu (((0 : Int), (0 : Int), (0 : Int), (96 : Int), PUnit.unit), (x, (0 : Nat)), PUnit.unit) + (1 : Nat))
                            (((0 : Int), (0 : Int), (0 : Int), (96 : Int), PUnit.unit), (x, (0 : Nat)), PUnit.unit)).2.1.2.2.1,
                (0 : Int))))))) := by kernel_rfl
def nparseC : Ctr := { args := [.str], res := [.int .i64, .int .i64], pre := none, fn := fun (x : List UInt8) => nparseF x }
theorem nparse_ok : CtrOK Tryd.prog 119 nparseC :=
  fun_ok (G := nparseG) (Λ := [(0, npD.spec)]) tysOK nparseG_ok mixed (by kernel_rfl) (by kernel_rfl) (by kernel_rfl) (by kernel_rfl) (lp_cons nparse_loop lp_nil) fun (x : List UInt8) hw hp => by
    show (evFn (mkC tys nparseG [(0, npD.spec)]) (fnOf Tryd.prog 119) (resL [.str] x) [.int .i64, .int .i64]).holds (fun y => y = nparseF x)
    rw [congrFun nparse_tree x]
    have key := np_all x 0 0
    generalize runF npStp (npMu (((0 : Int), (0 : Int), (0 : Int), (96 : Int), PUnit.unit), (x, (0 : Nat)), PUnit.unit) + (1 : Nat)) (((0 : Int), (0 : Int), (0 : Int), (96 : Int), PUnit.unit), (x, (0 : Nat)), PUnit.unit) = r at key ⊢
    simp only [Tree.holds]
    refine ⟨fun h => ?_, fun h => ⟨trivial, fun h2 => ?_, fun h2 => ⟨fun h3 => ?_, fun h3 => ?_⟩⟩⟩
    all_goals (unfold nparseF; rw [h])
    · rfl
    · cases hg : npGo x 0 96 with
      | none => rw [hg] at key; rw [key.2.1, key.2.2]; rfl
      | some v => rw [hg] at key; rw [key.1] at h2; cases h2
    · cases hg : npGo x 0 96 with
      | none => rw [hg] at key; rw [key.1] at h2; cases h2
      | some v => rw [hg] at key; rw [key.2] at h3; simp only [cond_false]; rw [h3]; rfl
    · cases hg : npGo x 0 96 with
      | none => rw [hg] at key; rw [key.1] at h2; cases h2
      | some v => rw [hg] at key; rw [key.2] at h3 ⊢; simp only [cond_false]; rw [h3]; rfl
def rnparseG : List (Nat × Ctr) := [(101, rwithC)]
theorem rnparseG_ok : CtrsOK Tryd.prog (fun f => lk f rnparseG) := (ctrs_cons rwith_ok ctrs_nil)
theorem rnparse_round : (fun x : (Int × Int × Int × Int × Unit) × (List UInt8 × Nat) × Unit => roundOf (mkC tys rnparseG [(0, npD.spec)]) npD (loopB 0 (bodyOf (fnOf Tryd.prog 122))) x) =
  (fun x =>
    Tree.br (Nat.blt x.2.1.2 (List.length x.2.1.1))
      (Tree.need (Nat.blt x.2.1.2 (List.length x.2.1.1) = true)
        (Tree.br (bif decide ((↑(decL x.2.1.1 x.2.1.2).1 : Int) ≤ x.1.2.2.2.1) then true else decide ((↑(decL x.2.1.1 x.2.1.2).1 : Int) > (112 : Int)))
          (Tree.leaf (Ex.ret, some (((0 : Int), (3 : Int), x.1.2.2.1, x.1.2.2.2.1, ()), (x.2.1.1, decN x.2.1.1 x.2.1.2), ())))
          (Tree.leaf
            (Ex.normal,
              some
                ((x.1.1, x.1.2.1, withF x.1.2.2.1 (IntKind.wrap IntKind.i64 (IntKind.wrap IntKind.i32 ((↑(decL x.2.1.1 x.2.1.2).1 : Int) - (97 : Int)))), (↑(decL x.2.1.1 x.2.1.2).1 : Int), ()),
                  (x.2.1.1, decN x.2.1.1 x.2.1.2), ())))))
      (Tree.leaf (Ex.exit (0 : Nat), some ((x.1.1, x.1.2.1, x.1.2.2.1, x.1.2.2.2.1, ()), (x.2.1.1, decN x.2.1.1 x.2.1.2), ())))) := by kernel_rfl
theorem rnparse_loop : LoopOK (mkC tys rnparseG [(0, npD.spec)]) npD.spec (loopB 0 (bodyOf (fnOf Tryd.prog 122))) :=
  loopF2_ok (id := 0) (D := npD) (fun x => congrFun rnparse_round x) npStp npMu (fun _ => rfl) npStp_ends fun (x : (Int × Int × Int × Int × Unit) × (List UInt8 × Nat) × Unit) _ => by
    obtain ⟨⟨a, b, s, l, ⟨⟩⟩, ⟨y, pos⟩, ⟨⟩⟩ := x
    have hr := decL_lt y pos
    have e : IntKind.wrap IntKind.i64 (IntKind.wrap IntKind.i32 (((decL y pos).1 : Int) - 97)) = ((decL y pos).1 : Int) - 97 := by
      rw [show IntKind.wrap IntKind.i32 (((decL y pos).1 : Int) - 97) = ((decL y pos).1 : Int) - 97 from i32_id (by omega) (by omega)]
      exact i64_id (by omega) (by omega)
    refine ⟨?_, fun hn => ⟨trivial, np_mu hn⟩⟩
    simp only [Tree.holds, npStp]
    rw [e]
    refine ⟨fun h => ⟨h, fun h2 => ?_, fun h2 => ?_⟩, fun h => ?_⟩
    · rw [h, h2]; rfl
    · rw [h, h2]; rfl
    · rw [h]; rfl
theorem rnparse_tree : (fun x : List UInt8 => evFn (mkC tys rnparseG [(0, npD.spec)]) (fnOf Tryd.prog 122) (resL [.str] x) [.int .i64, .int .i64]) =
  (fun x =>
    Tree.br (x == [(46 : UInt8)]) (Tree.leaf ((0 : Int), (0 : Int)))
      (Tree.need True
        (Tree.br
          (isRet
            (runF npStp (npMu (((0 : Int), (0 : Int), (0 : Int), (96 : Int), PUnit.unit), (x, (0 : Nat)), PUnit.unit) + (1 : Nat))
                (((0 : Int), (0 : Int), (0 : Int), (96 : Int), PUnit.unit), (x, (0 : Nat)), PUnit.unit)).1)
          (Tree.leaf
            ((runF npStp (npMu (((0 : Int), (0 : Int), (0 : Int), (96 : Int), PUnit.unit), (x, (0 : Nat)), PUnit.unit) + (1 : Nat))
                      (((0 : Int), (0 : Int), (0 : Int), (96 : Int), PUnit.unit), (x, (0 : Nat)), PUnit.unit)).2.1.1,
              (runF npStp (npMu (((0 : Int), (0 : Int), (0 : Int), (96 : Int), PUnit.unit), (x, (0 : Nat)), PUnit.unit) + (1 : Nat))
                        (((0 : Int), (0 : Int), (0 : Int), (96 : Int), PUnit.unit), (x, (0 : Nat)), PUnit.unit)).2.1.2.1))
          (Tree.br
            ((runF npStp (npMu (((0 : Int), (0 : Int), (0 : Int), (96 : Int), PUnit.unit), (x, (0 : Nat)), PUnit.unit) + (1 : Nat))
                          (((0 : Int), (0 : Int), (0 : Int), (96 : Int), PUnit.unit), (x, (0 : Nat)), PUnit.unit)).2.1.2.2.1 ==
              (0 : Int))
            (Tree.leaf ((0 : Int), (3 : Int)))
            (Tree.leaf
              ((runF npStp (npMu (((0 : Int), (0 : Int), (0 : Int), (96 : Int), PUnit.unit), (x, (0 : Nat)), PUnit.unit) + (1 : Nat))
                            (((0 : Int), (0 : Int), (0 : Int), (96 : Int), PUnit.unit), (x, (0 : Nat)), PUnit.unit)).2.1.2.2.1,
                (0 : Int))))))) := by kernel_rfl
theorem rnparse_ok : CtrOK Tryd.prog 122 nparseC :=
  fun_ok (G := rnparseG) (Λ := [(0, npD.spec)]) tysOK rnparseG_ok mixed (by kernel_rfl) (by kernel_rfl) (by kernel_rfl) (by kernel_rfl) (lp_cons rnparse_loop lp_nil) fun (x : List UInt8) hw hp => by
    show (evFn (mkC tys rnparseG [(0, npD.spec)]) (fnOf Tryd.prog 122) (resL [.str] x) [.int .i64, .int .i64]).holds (fun y => y = nparseF x)
    rw [congrFun rnparse_tree x]
    have key := np_all x 0 0
    generalize runF npStp (npMu (((0 : Int), (0 : Int), (0 : Int), (96 : Int), PUnit.unit), (x, (0 : Nat)), PUnit.unit) + (1 : Nat)) (((0 : Int), (0 : Int), (0 : Int), (96 : Int), PUnit.unit), (x, (0 : Nat)), PUnit.unit) = r at key ⊢
    simp only [Tree.holds]
    refine ⟨fun h => ?_, fun h => ⟨trivial, fun h2 => ?_, fun h2 => ⟨fun h3 => ?_, fun h3 => ?_⟩⟩⟩
    all_goals (unfold nparseF; rw [h])
    · rfl
    · cases hg : npGo x 0 96 with
      | none => rw [hg] at key; rw [key.2.1, key.2.2]; rfl
      | some v => rw [hg] at key; rw [key.1] at h2; cases h2
    · cases hg : npGo x 0 96 with
      | none => rw [hg] at key; rw [key.1] at h2; cases h2
      | some v => rw [hg] at key; rw [key.2] at h3; simp only [cond_false]; rw [h3]; rfl
    · cases hg : npGo x 0 96 with
      | none => rw [hg] at key; rw [key.1] at h2; cases h2
      | some v => rw [hg] at key; rw [key.2] at h3 ⊢; simp only [cond_false]; rw [h3]; rfl
def rcountC : Ctr := { args := [.int .i64], res := [.int .i64], pre := none, fn := fun (x : Int) => ((elemsF x 16).length : Int) }
def rcountG : List (Nat × Ctr) := [(105, rlistC)]
theorem rcount_tree : (fun x : Int => evFn (mkC tys rcountG []) (fnOf Tryd.prog 123) (resL rcountC.args x) rcountC.res) =
  (fun x => Tree.leaf (↑(List.length (elemsF x (16 : Nat))) : Int)) := by kernel_rfl
theorem rcount_ok : CtrOK Tryd.prog 123 rcountC :=
  fun_ok (G := rcountG) (Λ := []) tysOK (ctrs_cons rlist_ok ctrs_nil) mixed (by kernel_rfl) (by kernel_rfl) (by kernel_rfl) (by kernel_rfl) lp_nil fun (x : Int) hw _ => by
    rw [congrFun rcount_tree x]
    exact holds_val (d := rcountC.fn x) (by kernel_rfl) (by simp [Tree.safe])
end Go.Ev.D
/- How many are in a set: the library's sums. -/
set_option linter.unusedVariables false
set_option linter.unusedSimpArgs false
namespace Go.Ev
def pA (m : Nat) : Nat := ((m / 2) &&& 6148914691236517205) + (m &&& 6148914691236517205)
def pB (m : Nat) : Nat := ((m / 4) &&& 3689348814741910323) + (m &&& 3689348814741910323)
def pC (m : Nat) : Nat := (m / 16 + m) &&& 1085102592571150095
def pD (m : Nat) : Nat := m + m / 256
def pE (m : Nat) : Nat := m + m / 65536
def pF (m : Nat) : Nat := m + m / 4294967296
def pcN (m : Nat) : Nat := pF (pE (pD (pC (pB (pA m))))) &&& 127
def cntN (m : Nat) : Nat → Nat
  | 0 => 0
  | k + 1 => (m / 2 ^ (15 - k)) % 2 + cntN m k
def allN (p : Nat → Bool) : Nat → Bool
  | 0 => true
  | k + 1 => bif p k then allN p k else false
theorem allN_all {p : Nat → Bool} : ∀ k, allN p k = true → ∀ i, i < k → p i = true
  | 0, _, i, hi => by omega
  | k + 1, h, i, hi => by
    unfold allN at h
    cases hk : p k with
    | false => rw [hk] at h; cases h
    | true =>
      rw [hk] at h
      by_cases he : i = k
      · rw [he]; exact hk
      · exact allN_all k h i (by omega)
def pcRow (o p : Nat) : Bool := allN (fun q => Nat.beq (pcN (256 * (o + p) + q)) (cntN (256 * (o + p) + q) 16)) 256
theorem pc_rows0 : allN (pcRow 0) 16 = true := by decide +kernel
theorem pc_rows1 : allN (pcRow 16) 16 = true := by decide +kernel
theorem pc_rows2 : allN (pcRow 32) 16 = true := by decide +kernel
theorem pc_rows3 : allN (pcRow 48) 16 = true := by decide +kernel
theorem pc_rows4 : allN (pcRow 64) 16 = true := by decide +kernel
theorem pc_rows5 : allN (pcRow 80) 16 = true := by decide +kernel
theorem pc_rows6 : allN (pcRow 96) 16 = true := by decide +kernel
theorem pc_rows7 : allN (pcRow 112) 16 = true := by decide +kernel
theorem pc_rows8 : allN (pcRow 128) 16 = true := by decide +kernel
theorem pc_rows9 : allN (pcRow 144) 16 = true := by decide +kernel
theorem pc_rows10 : allN (pcRow 160) 16 = true := by decide +kernel
theorem pc_rows11 : allN (pcRow 176) 16 = true := by decide +kernel
theorem pc_rows12 : allN (pcRow 192) 16 = true := by decide +kernel
theorem pc_rows13 : allN (pcRow 208) 16 = true := by decide +kernel
theorem pc_rows14 : allN (pcRow 224) 16 = true := by decide +kernel
theorem pc_rows15 : allN (pcRow 240) 16 = true := by decide +kernel
theorem pc_row {p : Nat} (hp : p < 256) : ∃ o i, i < 16 ∧ p = o + i ∧ allN (pcRow o) 16 = true := by
  have : p / 16 < 16 := by omega
  refine ⟨16 * (p / 16), p % 16, by omega, by omega, ?_⟩
  generalize p / 16 = d at this
  rcases (show d = 0 ∨ d = 1 ∨ d = 2 ∨ d = 3 ∨ d = 4 ∨ d = 5 ∨ d = 6 ∨ d = 7 ∨ d = 8 ∨ d = 9 ∨ d = 10 ∨ d = 11 ∨ d = 12 ∨ d = 13 ∨ d = 14 ∨ d = 15 by omega) with rfl | rfl | rfl | rfl | rfl | rfl | rfl | rfl | rfl | rfl | rfl | rfl | rfl | rfl | rfl | rfl
  · exact pc_rows0
  · exact pc_rows1
  · exact pc_rows2
  · exact pc_rows3
  · exact pc_rows4
  · exact pc_rows5
  · exact pc_rows6
  · exact pc_rows7
  · exact pc_rows8
  · exact pc_rows9
  · exact pc_rows10
  · exact pc_rows11
  · exact pc_rows12
  · exact pc_rows13
  · exact pc_rows14
  · exact pc_rows15
theorem pc_all {m : Nat} (hm : m < 65536) : pcN m = cntN m 16 := by
  obtain ⟨o, i, hi, he, h⟩ := pc_row (p := m / 256) (by omega)
  have h1 := allN_all 256 (allN_all 16 h i hi) (m % 256) (by omega)
  have h2 := Nat.eq_of_beq_eq_true h1
  rw [← he] at h2
  rwa [show 256 * (m / 256) + m % 256 = m by omega] at h2
theorem elems_cnt {m : Nat} : ∀ k, k ≤ 16 → ((elemsF (m : Int) k).length : Int) = cntN m k
  | 0, _ => rfl
  | k + 1, hk => by
    have hn : (16 : Int) - (k + 1 : Nat) = ((15 - k : Nat) : Int) := by omega
    unfold elemsF cntN
    rw [List.length_append, hn, has_nat (by omega)]
    have := elems_cnt (m := m) k (by omega)
    have hb : m.testBit (15 - k) = decide (m / 2 ^ (15 - k) % 2 = 1) := Nat.testBit_eq_decide_div_mod_eq
    rw [hb]
    have h2 : m / 2 ^ (15 - k) % 2 = 0 ∨ m / 2 ^ (15 - k) % 2 = 1 := by omega
    rcases h2 with h2 | h2 <;> rw [h2]
    · rw [decide_eq_false (by decide)]; simp only [cond_false, List.length_nil]; omega
    · rw [decide_eq_true rfl]; simp only [cond_true, List.length_cons, List.length_nil]; omega
end Go.Ev
/- The library's sums, in the code's own numbers. -/
set_option linter.unusedVariables false
set_option linter.unusedSimpArgs false
namespace Go.Ev
/-! The sums, as the library's code forms them -/
def iA (x : Int) : Int := IntKind.wrap IntKind.u64 (bitsOp BinOp.and IntKind.u64 (Int.fdiv x (2 : Int)) (6148914691236517205 : Int) + bitsOp BinOp.and IntKind.u64 x (6148914691236517205 : Int))
def iB (x : Int) : Int := IntKind.wrap IntKind.u64 (bitsOp BinOp.and IntKind.u64 (Int.fdiv x (4 : Int)) (3689348814741910323 : Int) + bitsOp BinOp.and IntKind.u64 x (3689348814741910323 : Int))
def iC (x : Int) : Int := bitsOp BinOp.and IntKind.u64 (IntKind.wrap IntKind.u64 (Int.fdiv x (16 : Int) + x)) (1085102592571150095 : Int)
def iD (x : Int) : Int := IntKind.wrap IntKind.u64 (x + Int.fdiv x (256 : Int))
def iE (x : Int) : Int := IntKind.wrap IntKind.u64 (x + Int.fdiv x (65536 : Int))
def iF (x : Int) : Int := IntKind.wrap IntKind.u64 (x + Int.fdiv x (4294967296 : Int))
def onesI (x : Int) : Int := bitsOp BinOp.and IntKind.i64 (IntKind.wrap IntKind.i64 (iF (iE (iD (iC (iB (iA x))))))) (127 : Int)
theorem fdiv_nat (m k : Nat) : Int.fdiv (m : Int) (k : Int) = ((m / k : Nat) : Int) := by
  rw [Int.fdiv_eq_ediv_of_nonneg _ (by omega)]
  exact (Int.natCast_ediv m k).symm
theorem and_u64 {m k : Nat} (hm : m < 18446744073709551616) (hk : k < 18446744073709551616) : bitsOp BinOp.and IntKind.u64 (m : Int) (k : Int) = ((m &&& k : Nat) : Int) := by
  have h := Nat.and_le_left (n := m) (m := k)
  rw [and_nat (k := .u64) (by omega) (by show (m : Int) < 18446744073709551616; omega) (by omega) (by show (k : Int) < 18446744073709551616; omega)]
  · rw [Int.toNat_natCast, Int.toNat_natCast]
  · rw [Int.toNat_natCast, Int.toNat_natCast]
    exact (has_u64 _).2 ⟨by omega, by omega⟩
theorem wrap64_nat {m : Nat} (hm : m < 18446744073709551616) : IntKind.wrap IntKind.u64 (m : Int) = (m : Int) := u64_id (by omega) (by omega)

theorem iA_nat {m : Nat} (hm : m < 65536) : iA (m : Int) = (pA m : Int) ∧ pA m < 98304 := by
  have h1 := Nat.and_le_left (n := m / 2) (m := 6148914691236517205)
  have h2 := Nat.and_le_left (n := m) (m := 6148914691236517205)
  have hb : pA m < 98304 := by unfold pA; omega
  refine ⟨?_, hb⟩
  unfold iA
  rw [show (2 : Int) = ((2 : Nat) : Int) from rfl, fdiv_nat, show (6148914691236517205 : Int) = ((6148914691236517205 : Nat) : Int) from rfl, and_u64 (by omega) (by omega), and_u64 (by omega) (by omega), ← Int.natCast_add]
  exact wrap64_nat (by show pA m < _; omega)
theorem iB_nat {m : Nat} (hm : m < 98304) : iB (m : Int) = (pB m : Int) ∧ pB m < 131072 := by
  have h1 := Nat.and_le_left (n := m / 4) (m := 3689348814741910323)
  have h2 := Nat.and_le_left (n := m) (m := 3689348814741910323)
  have hb : pB m < 131072 := by unfold pB; omega
  refine ⟨?_, hb⟩
  unfold iB
  rw [show (4 : Int) = ((4 : Nat) : Int) from rfl, fdiv_nat, show (3689348814741910323 : Int) = ((3689348814741910323 : Nat) : Int) from rfl, and_u64 (by omega) (by omega), and_u64 (by omega) (by omega), ← Int.natCast_add]
  exact wrap64_nat (by show pB m < _; omega)
theorem iC_nat {m : Nat} (hm : m < 131072) : iC (m : Int) = (pC m : Int) ∧ pC m < 262144 := by
  have h1 := Nat.and_le_left (n := m / 16 + m) (m := 1085102592571150095)
  have hb : pC m < 262144 := by unfold pC; omega
  refine ⟨?_, hb⟩
  unfold iC
  rw [show (16 : Int) = ((16 : Nat) : Int) from rfl, fdiv_nat, ← Int.natCast_add, wrap64_nat (by omega), show (1085102592571150095 : Int) = ((1085102592571150095 : Nat) : Int) from rfl, and_u64 (by omega) (by omega)]
  rfl
theorem iD_nat {m : Nat} (hm : m < 262144) : iD (m : Int) = (pD m : Int) ∧ pD m < 524288 := by
  have hb : pD m < 524288 := by unfold pD; omega
  refine ⟨?_, hb⟩
  unfold iD
  rw [show (256 : Int) = ((256 : Nat) : Int) from rfl, fdiv_nat, ← Int.natCast_add]
  exact wrap64_nat (by show pD m < _; omega)
theorem iE_nat {m : Nat} (hm : m < 524288) : iE (m : Int) = (pE m : Int) ∧ pE m < 1048576 := by
  have hb : pE m < 1048576 := by unfold pE; omega
  refine ⟨?_, hb⟩
  unfold iE
  rw [show (65536 : Int) = ((65536 : Nat) : Int) from rfl, fdiv_nat, ← Int.natCast_add]
  exact wrap64_nat (by show pE m < _; omega)
theorem iF_nat {m : Nat} (hm : m < 1048576) : iF (m : Int) = (pF m : Int) ∧ pF m < 2097152 := by
  have hb : pF m < 2097152 := by unfold pF; omega
  refine ⟨?_, hb⟩
  unfold iF
  rw [show (4294967296 : Int) = ((4294967296 : Nat) : Int) from rfl, fdiv_nat, ← Int.natCast_add]
  exact wrap64_nat (by show pF m < _; omega)
theorem ones_nat {m : Nat} (hm : m < 65536) : onesI (m : Int) = (pcN m : Int) := by
  obtain ⟨a1, a2⟩ := iA_nat hm
  obtain ⟨b1, b2⟩ := iB_nat a2
  obtain ⟨c1, c2⟩ := iC_nat b2
  obtain ⟨d1, d2⟩ := iD_nat c2
  obtain ⟨e1, e2⟩ := iE_nat d2
  obtain ⟨f1, f2⟩ := iF_nat e2
  unfold onesI pcN
  rw [a1, b1, c1, d1, e1, f1]
  generalize pF (pE (pD (pC (pB (pA m))))) = k at f2
  rw [show IntKind.wrap IntKind.i64 (k : Int) = (k : Int) from i64_id (by omega) (by omega), show (127 : Int) = ((127 : Nat) : Int) from rfl]
  have h := Nat.and_le_left (n := k) (m := 127)
  rw [and_nat (k := .i64) (by omega) (by show (k : Int) < 18446744073709551616; omega) (by omega) (by decide), Int.toNat_natCast, Int.toNat_natCast]
  rw [Int.toNat_natCast, Int.toNat_natCast]
  exact (has_i64 _).2 ⟨by omega, by omega⟩
/-- What the sums come to: how many are in the set. -/
theorem ones_len {x : Int} (h0 : 0 ≤ x) (h1 : x < 65536) : onesI x = ((elemsF x 16).length : Int) := by
  obtain ⟨m, rfl⟩ : ∃ m : Nat, x = (m : Int) := ⟨x.toNat, by omega⟩
  rw [ones_nat (by omega), pc_all (by omega)]
  exact (elems_cnt 16 (Nat.le_refl _)).symm
/-- The low sixteen letters alone. -/
theorem and_lowI {x : Int} (h0 : 0 ≤ x) (h1 : x < 65536) : bitsOp BinOp.and IntKind.i64 x (65535 : Int) = x := by
  have := and_low (s := x) 16 (by decide)
  have h2 : bitsOp BinOp.and IntKind.i64 x (65535 : Int) = x % ((2 ^ 16 : Nat) : Int) := this
  rw [h2]
  have h3 : ((2 ^ 16 : Nat) : Int) = 65536 := by decide
  rw [h3]
  omega
end Go.Ev
/- How many are in a set: the library's way. -/
set_option linter.unusedVariables false
set_option linter.unusedSimpArgs false
namespace Go.Ev.D
open Go.Proofs
def lowPre (x : Int) : Prop := 0 ≤ x ∧ x < 65536
def ones64C : Ctr := { args := [.int .u64], res := [.int .i64], pre := some lowPre, fn := fun (x : Int) => ((elemsF x 16).length : Int) }
theorem ones64_tree : (fun x : Int => evFn (mkC tys [] []) (fnOf Tryd.prog 156) (resL [.int .u64] x) [.int .i64]) =
  (fun x =>
    Tree.leaf
      (bitsOp BinOp.and IntKind.i64
        (IntKind.wrap IntKind.i64
          (IntKind.wrap IntKind.u64
            (IntKind.wrap IntKind.u64
                (IntKind.wrap IntKind.u64
                    (bitsOp BinOp.and IntKind.u64
                        (IntKind.wrap IntKind.u64
                          (Int.fdiv
                              (IntKind.wrap IntKind.u64
                                (bitsOp BinOp.and IntKind.u64
                                    (Int.fdiv
                                      (IntKind.wrap IntKind.u64
                                        (bitsOp BinOp.and IntKind.u64 (Int.fdiv x (2 : Int)) (6148914691236517205 : Int) + bitsOp BinOp.and IntKind.u64 x (6148914691236517205 : Int)))
                                      (4 : Int))
                                    (3689348814741910323 : Int) +
                                  bitsOp BinOp.and IntKind.u64
                                    (IntKind.wrap IntKind.u64
                                      (bitsOp BinOp.and IntKind.u64 (Int.fdiv x (2 : Int)) (6148914691236517205 : Int) + bitsOp BinOp.and IntKind.u64 x (6148914691236517205 : Int)))
                                    (3689348814741910323 : Int)))
                              (16 : Int) +
                            IntKind.wrap IntKind.u64
                              (bitsOp BinOp.and IntKind.u64
                                  (Int.fdiv
                                    (IntKind.wrap IntKind.u64
                                      (bitsOp BinOp.and IntKind.u64 (Int.fdiv x (2 : Int)) (6148914691236517205 : Int) + bitsOp BinOp.and IntKind.u64 x (6148914691236517205 : Int)))
                                    (4 : Int))
                                  (3689348814741910323 : Int) +
                                bitsOp BinOp.and IntKind.u64
                                  (IntKind.wrap IntKind.u64
                                    (bitsOp BinOp.and IntKind.u64 (Int.fdiv x (2 : Int)) (6148914691236517205 : Int) + bitsOp BinOp.and IntKind.u64 x (6148914691236517205 : Int)))
                                  (3689348814741910323 : Int))))
                        (1085102592571150095 : Int) +
                      Int.fdiv
                        (bitsOp BinOp.and IntKind.u64
                          (IntKind.wrap IntKind.u64
                            (Int.fdiv
                                (IntKind.wrap IntKind.u64
                                  (bitsOp BinOp.and IntKind.u64
                                      (Int.fdiv
                                        (IntKind.wrap IntKind.u64
                                          (bitsOp BinOp.and IntKind.u64 (Int.fdiv x (2 : Int)) (6148914691236517205 : Int) + bitsOp BinOp.and IntKind.u64 x (6148914691236517205 : Int)))
                                        (4 : Int))
                                      (3689348814741910323 : Int) +
                                    bitsOp BinOp.and IntKind.u64
                                      (IntKind.wrap IntKind.u64
                                        (bitsOp BinOp.and IntKind.u64 (Int.fdiv x (2 : Int)) (6148914691236517205 : Int) + bitsOp BinOp.and IntKind.u64 x (6148914691236517205 : Int)))
                                      (3689348814741910323 : Int)))
                                (16 : Int) +
                              IntKind.wrap IntKind.u64
                                (bitsOp BinOp.and IntKind.u64
                                    (Int.fdiv
                                      (IntKind.wrap IntKind.u64
                                        (bitsOp BinOp.and IntKind.u64 (Int.fdiv x (2 : Int)) (6148914691236517205 : Int) + bitsOp BinOp.and IntKind.u64 x (6148914691236517205 : Int)))
                                      (4 : Int))
                                    (3689348814741910323 : Int) +
                                  bitsOp BinOp.and IntKind.u64
                                    (IntKind.wrap IntKind.u64
                                      (bitsOp BinOp.and IntKind.u64 (Int.fdiv x (2 : Int)) (6148914691236517205 : Int) + bitsOp BinOp.and IntKind.u64 x (6148914691236517205 : Int)))
                                    (3689348814741910323 : Int))))
                          (1085102592571150095 : Int))
                        (256 : Int)) +
                  Int.fdiv
                    (IntKind.wrap IntKind.u64
                      (bitsOp BinOp.and IntKind.u64
                          (IntKind.wrap IntKind.u64
                            (Int.fdiv
                                (IntKind.wrap IntKind.u64
                                  (bitsOp BinOp.and IntKind.u64
                                      (Int.fdiv
                                        (IntKind.wrap IntKind.u64
                                          (bitsOp BinOp.and IntKind.u64 (Int.fdiv x (2 : Int)) (6148914691236517205 : Int) + bitsOp BinOp.and IntKind.u64 x (6148914691236517205 : Int)))
                                        (4 : Int))
                                      (3689348814741910323 : Int) +
                                    bitsOp BinOp.and IntKind.u64
                                      (IntKind.wrap IntKind.u64
                                        (bitsOp BinOp.and IntKind.u64 (Int.fdiv x (2 : Int)) (6148914691236517205 : Int) + bitsOp BinOp.and IntKind.u64 x (6148914691236517205 : Int)))
                                      (3689348814741910323 : Int)))
                                (16 : Int) +
                              IntKind.wrap IntKind.u64
                                (bitsOp BinOp.and IntKind.u64
                                    (Int.fdiv
                                      (IntKind.wrap IntKind.u64
                                        (bitsOp BinOp.and IntKind.u64 (Int.fdiv x (2 : Int)) (6148914691236517205 : Int) + bitsOp BinOp.and IntKind.u64 x (6148914691236517205 : Int)))
                                      (4 : Int))
                                    (3689348814741910323 : Int) +
                                  bitsOp BinOp.and IntKind.u64
                                    (IntKind.wrap IntKind.u64
                                      (bitsOp BinOp.and IntKind.u64 (Int.fdiv x (2 : Int)) (6148914691236517205 : Int) + bitsOp BinOp.and IntKind.u64 x (6148914691236517205 : Int)))
                                    (3689348814741910323 : Int))))
                          (1085102592571150095 : Int) +
                        Int.fdiv
                          (bitsOp BinOp.and IntKind.u64
                            (IntKind.wrap IntKind.u64
                              (Int.fdiv
                                  (IntKind.wrap IntKind.u64
                                    (bitsOp BinOp.and IntKind.u64
                                        (Int.fdiv
                                          (IntKind.wrap IntKind.u64
                                            (bitsOp BinOp.and IntKind.u64 (Int.fdiv x (2 : Int)) (6148914691236517205 : Int) + bitsOp BinOp.and IntKind.u64 x (6148914691236517205 : Int)))
                                          (4 : Int))
                                        (3689348814741910323 : Int) +
                                      bitsOp BinOp.and IntKind.u64
                                        (IntKind.wrap IntKind.u64
                                          (bitsOp BinOp.and IntKind.u64 (Int.fdiv x (2 : Int)) (6148914691236517205 : Int) + bitsOp BinOp.and IntKind.u64 x (6148914691236517205 : Int)))
                                        (3689348814741910323 : Int)))
                                  (16 : Int) +
                                IntKind.wrap IntKind.u64
                                  (bitsOp BinOp.and IntKind.u64
                                      (Int.fdiv
                                        (IntKind.wrap IntKind.u64
                                          (bitsOp BinOp.and IntKind.u64 (Int.fdiv x (2 : Int)) (6148914691236517205 : Int) + bitsOp BinOp.and IntKind.u64 x (6148914691236517205 : Int)))
                                        (4 : Int))
                                      (3689348814741910323 : Int) +
                                    bitsOp BinOp.and IntKind.u64
                                      (IntKind.wrap IntKind.u64
                                        (bitsOp BinOp.and IntKind.u64 (Int.fdiv x (2 : Int)) (6148914691236517205 : Int) + bitsOp BinOp.and IntKind.u64 x (6148914691236517205 : Int)))
                                      (3689348814741910323 : Int))))
                            (1085102592571150095 : Int))
                          (256 : Int)))
                    (65536 : Int)) +
              Int.fdiv
                (IntKind.wrap IntKind.u64
                  (IntKind.wrap IntKind.u64
                      (bitsOp BinOp.and IntKind.u64
                          (IntKind.wrap IntKind.u64
                            (Int.fdiv
                                (IntKind.wrap IntKind.u64
                                  (bitsOp BinOp.and IntKind.u64
                                      (Int.fdiv
                                        (IntKind.wrap IntKind.u64
                                          (bitsOp BinOp.and IntKind.u64 (Int.fdiv x (2 : Int)) (6148914691236517205 : Int) + bitsOp BinOp.and IntKind.u64 x (6148914691236517205 : Int)))
                                        (4 : Int))
                                      (3689348814741910323 : Int) +
                                    bitsOp BinOp.and IntKind.u64
                                      (IntKind.wrap IntKind.u64
                                        (bitsOp BinOp.and IntKind.u64 (Int.fdiv x (2 : Int)) (6148914691236517205 : Int) + bitsOp BinOp.and IntKind.u64 x (6148914691236517205 : Int)))
                                      (3689348814741910323 : Int)))
                                (16 : Int) +
                              IntKind.wrap IntKind.u64
                                (bitsOp BinOp.and IntKind.u64
                                    (Int.fdiv
                                      (IntKind.wrap IntKind.u64
                                        (bitsOp BinOp.and IntKind.u64 (Int.fdiv x (2 : Int)) (6148914691236517205 : Int) + bitsOp BinOp.and IntKind.u64 x (6148914691236517205 : Int)))
                                      (4 : Int))
                                    (3689348814741910323 : Int) +
                                  bitsOp BinOp.and IntKind.u64
                                    (IntKind.wrap IntKind.u64
                                      (bitsOp BinOp.and IntKind.u64 (Int.fdiv x (2 : Int)) (6148914691236517205 : Int) + bitsOp BinOp.and IntKind.u64 x (6148914691236517205 : Int)))
                                    (3689348814741910323 : Int))))
                          (1085102592571150095 : Int) +
                        Int.fdiv
                          (bitsOp BinOp.and IntKind.u64
                            (IntKind.wrap IntKind.u64
                              (Int.fdiv
                                  (IntKind.wrap IntKind.u64
                                    (bitsOp BinOp.and IntKind.u64
                                        (Int.fdiv
                                          (IntKind.wrap IntKind.u64
                                            (bitsOp BinOp.and IntKind.u64 (Int.fdiv x (2 : Int)) (6148914691236517205 : Int) + bitsOp BinOp.and IntKind.u64 x (6148914691236517205 : Int)))
                                          (4 : Int))
                                        (3689348814741910323 : Int) +
                                      bitsOp BinOp.and IntKind.u64
                                        (IntKind.wrap IntKind.u64
                                          (bitsOp BinOp.and IntKind.u64 (Int.fdiv x (2 : Int)) (6148914691236517205 : Int) + bitsOp BinOp.and IntKind.u64 x (6148914691236517205 : Int)))
                                        (3689348814741910323 : Int)))
                                  (16 : Int) +
                                IntKind.wrap IntKind.u64
                                  (bitsOp BinOp.and IntKind.u64
                                      (Int.fdiv
                                        (IntKind.wrap IntKind.u64
                                          (bitsOp BinOp.and IntKind.u64 (Int.fdiv x (2 : Int)) (6148914691236517205 : Int) + bitsOp BinOp.and IntKind.u64 x (6148914691236517205 : Int)))
                                        (4 : Int))
                                      (3689348814741910323 : Int) +
                                    bitsOp BinOp.and IntKind.u64
                                      (IntKind.wrap IntKind.u64
                                        (bitsOp BinOp.and IntKind.u64 (Int.fdiv x (2 : Int)) (6148914691236517205 : Int) + bitsOp BinOp.and IntKind.u64 x (6148914691236517205 : Int)))
                                      (3689348814741910323 : Int))))
                            (1085102592571150095 : Int))
                          (256 : Int)) +
                    Int.fdiv
                      (IntKind.wrap IntKind.u64
                        (bitsOp BinOp.and IntKind.u64
                            (IntKind.wrap IntKind.u64
                              (Int.fdiv
                                  (IntKind.wrap IntKind.u64
                                    (bitsOp BinOp.and IntKind.u64
                                        (Int.fdiv
                                          (IntKind.wrap IntKind.u64
                                            (bitsOp BinOp.and IntKind.u64 (Int.fdiv x (2 : Int)) (6148914691236517205 : Int) + bitsOp BinOp.and IntKind.u64 x (6148914691236517205 : Int)))
                                          (4 : Int))
                                        (3689348814741910323 : Int) +
                                      bitsOp BinOp.and IntKind.u64
                                        (IntKind.wrap IntKind.u64
                                          (bitsOp BinOp.and IntKind.u64 (Int.fdiv x (2 : Int)) (6148914691236517205 : Int) + bitsOp BinOp.and IntKind.u64 x (6148914691236517205 : Int)))
                                        (3689348814741910323 : Int)))
                                  (16 : Int) +
                                IntKind.wrap IntKind.u64
                                  (bitsOp BinOp.and IntKind.u64
                                      (Int.fdiv
                                        (IntKind.wrap IntKind.u64
                                          (bitsOp BinOp.and IntKind.u64 (Int.fdiv x (2 : Int)) (6148914691236517205 : Int) + bitsOp BinOp.and IntKind.u64 x (6148914691236517205 : Int)))
                                        (4 : Int))
                                      (3689348814741910323 : Int) +
                                    bitsOp BinOp.and IntKind.u64
                                      (IntKind.wrap IntKind.u64
                                        (bitsOp BinOp.and IntKind.u64 (Int.fdiv x (2 : Int)) (6148914691236517205 : Int) + bitsOp BinOp.and IntKind.u64 x (6148914691236517205 : Int)))
                                      (3689348814741910323 : Int))))
                            (1085102592571150095 : Int) +
                          Int.fdiv
                            (bitsOp BinOp.and IntKind.u64
                              (IntKind.wrap IntKind.u64
                                (Int.fdiv
                                    (IntKind.wrap IntKind.u64
                                      (bitsOp BinOp.and IntKind.u64
                                          (Int.fdiv
                                            (IntKind.wrap IntKind.u64
                                              (bitsOp BinOp.and IntKind.u64 (Int.fdiv x (2 : Int)) (6148914691236517205 : Int) + bitsOp BinOp.and IntKind.u64 x (6148914691236517205 : Int)))
                                            (4 : Int))
                                          (3689348814741910323 : Int) +
                                        bitsOp BinOp.and IntKind.u64
                                          (IntKind.wrap IntKind.u64
                                            (bitsOp BinOp.and IntKind.u64 (Int.fdiv x (2 : Int)) (6148914691236517205 : Int) + bitsOp BinOp.and IntKind.u64 x (6148914691236517205 : Int)))
                                          (3689348814741910323 : Int)))
                                    (16 : Int) +
                                  IntKind.wrap IntKind.u64
                                    (bitsOp BinOp.and IntKind.u64
                                        (Int.fdiv
                                          (IntKind.wrap IntKind.u64
                                            (bitsOp BinOp.and IntKind.u64 (Int.fdiv x (2 : Int)) (6148914691236517205 : Int) + bitsOp BinOp.and IntKind.u64 x (6148914691236517205 : Int)))
                                          (4 : Int))
                                        (3689348814741910323 : Int) +
                                      bitsOp BinOp.and IntKind.u64
                                        (IntKind.wrap IntKind.u64
                                          (bitsOp BinOp.and IntKind.u64 (Int.fdiv x (2 : Int)) (6148914691236517205 : Int) + bitsOp BinOp.and IntKind.u64 x (6148914691236517205 : Int)))
                                        (3689348814741910323 : Int))))
                              (1085102592571150095 : Int))
                            (256 : Int)))
                      (65536 : Int)))
                (4294967296 : Int))))
        (127 : Int))) := by kernel_rfl
theorem ones64_ok : CtrOK Tryd.prog 156 ones64C :=
  fun_ok (G := []) (Λ := []) tysOK ctrs_nil mixed (by kernel_rfl) (by kernel_rfl) (by kernel_rfl) (by kernel_rfl) lp_nil fun (x : Int) hw hp => by
    have hx : lowPre x := hp lowPre rfl
    show (evFn (mkC tys [] []) (fnOf Tryd.prog 156) (resL [.int .u64] x) [.int .i64]).holds (fun y => y = ((elemsF x 16).length : Int))
    rw [congrFun ones64_tree x]
    exact ones_len hx.1 hx.2
def ones0C : Ctr := { args := [.int .u64], res := [.int .i64], pre := some lowPre, fn := fun (x : Int) => ((elemsF x 16).length : Int) }
def onesG : List (Nat × Ctr) := [(156, ones64C)]
theorem ones0_tree : (fun x : Int => evFn (mkC tys onesG []) (fnOf Tryd.prog 136) (resL [.int .u64] x) [.int .i64]) =
  (fun x => Tree.br false Tree.stuck (Tree.need (lowPre x) (Tree.leaf (↑(List.length (elemsF x (16 : Nat))) : Int)))) := by kernel_rfl
theorem ones0_ok : CtrOK Tryd.prog 136 ones0C :=
  fun_ok (G := onesG) (Λ := []) tysOK (ctrs_cons ones64_ok ctrs_nil) mixed (by kernel_rfl) (by kernel_rfl) (by kernel_rfl) (by kernel_rfl) lp_nil fun (x : Int) hw hp => by
    have hx : lowPre x := hp lowPre rfl
    show (evFn (mkC tys onesG []) (fnOf Tryd.prog 136) (resL [.int .u64] x) [.int .i64]).holds (fun y => y = ((elemsF x 16).length : Int))
    rw [congrFun ones0_tree x]
    simp only [Tree.holds]
    simp [hx]
def ncountC : Ctr := { args := [.int .i64], res := [.int .i64], pre := some lowPre, fn := fun (x : Int) => ((elemsF x 16).length : Int) }
def ncountG : List (Nat × Ctr) := [(136, ones0C)]
theorem ncount_tree : (fun x : Int => evFn (mkC tys ncountG []) (fnOf Tryd.prog 87) (resL [.int .i64] x) [.int .i64]) =
  (fun x =>
    Tree.need (lowPre (IntKind.wrap IntKind.u64 (bitsOp BinOp.and IntKind.i64 x (65535 : Int))))
      (Tree.leaf (↑(List.length (elemsF (IntKind.wrap IntKind.u64 (bitsOp BinOp.and IntKind.i64 x (65535 : Int))) (16 : Nat))) : Int))) := by kernel_rfl
theorem ncount_ok : CtrOK Tryd.prog 87 ncountC :=
  fun_ok (G := ncountG) (Λ := []) tysOK (ctrs_cons ones0_ok ctrs_nil) mixed (by kernel_rfl) (by kernel_rfl) (by kernel_rfl) (by kernel_rfl) lp_nil fun (x : Int) hw hp => by
    have hx : lowPre x := hp lowPre rfl
    show (evFn (mkC tys ncountG []) (fnOf Tryd.prog 87) (resL [.int .i64] x) [.int .i64]).holds (fun y => y = ((elemsF x 16).length : Int))
    rw [congrFun ncount_tree x]
    have e1 := and_lowI hx.1 hx.2
    have e2 : IntKind.wrap IntKind.u64 x = x := u64_id hx.1 (by have := hx.2; omega)
    simp only [Tree.holds]
    rw [e1, e2]
    exact ⟨hx, rfl⟩
end Go.Ev.D
/- Trees read: the document's reading, and what both come to. -/
set_option linter.unusedVariables false
set_option linter.unusedSimpArgs false
namespace Go.Ev
/-- The entries of a told tree, one behind the other. -/
theorem tp_ents {t : List DEnt} {e : Int} {t2 : List DEnt} : ∀ (l : List Int) (n : Nat) (acc : List DEnt), (∀ j ∈ l, 0 ≤ j ∧ j < 16 ∧ goodE (entAt t j.toNat)) → (entsB t l).length < n →
    runF tpStp n ((e, entsB t l, ()), t2, acc, ()) = (.exit 0, ((e, [], ()), t2, l.foldl (fun a j => a.set j.toNat (entAt t j.toNat)) acc, ()))
  | [], n + 1, acc, _, _ => by
    have h : tpStp ((e, ([] : List UInt8), ()), t2, acc, ()) = (.exit 0, ((e, [], ()), t2, acc, ())) := rfl
    show runF tpStp (n + 1) ((e, [], ()), t2, acc, ()) = _
    rw [runF_end (by rw [h]; intro h2; cases h2), h]
    rfl
  | _, 0, _, _, h => by omega
  | j :: l, n + 1, acc, hl, hn => by
    obtain ⟨h0, h1, hg⟩ := hl j (by simp)
    have hr := ent_read (l := entsB t l) h0 h1 hg
    rw [← ents_cons] at hr
    have hne : (entsB t (j :: l) == []) = false := by
      rw [ents_cons, entB_parts h0 h1 hg]
      rfl
    have h : tpStp ((e, entsB t (j :: l), ()), t2, acc, ()) = (.normal, ((e, entsB t l, ()), t2, acc.set j.toNat (entAt t j.toNat), ())) := by
      unfold tpStp
      simp only
      rw [hne, hr]
      rfl
    have hlen : (entsB t (j :: l)).length = (entB t j).length + (entsB t l).length := by rw [ents_cons, List.length_append]
    have hpos : 0 < (entB t j).length := by rw [entB_parts h0 h1 hg]; simp
    rw [runF_go h, tp_ents l n _ (fun i hi => hl i (by simp [hi])) (by omega)]
    rfl
theorem fold_len {t : List DEnt} : ∀ (l : List Int) (acc : List DEnt), (l.foldl (fun a j => a.set j.toNat (entAt t j.toNat)) acc).length = acc.length
  | [], acc => rfl
  | j :: l, acc => by rw [List.foldl_cons, fold_len l, List.length_set]
theorem fold_at {t : List DEnt} : ∀ (l : List Int) (acc : List DEnt) (i : Nat), acc.length = 16 → i < 16 → (∀ j ∈ l, 0 ≤ j) → entAt (l.foldl (fun a j => a.set j.toNat (entAt t j.toNat)) acc) i = if (i : Int) ∈ l then entAt t i else entAt acc i
  | [], acc, i, _, _, _ => by simp
  | j :: l, acc, i, ha, hi, hl => by
    have h0 := hl j (by simp)
    rw [List.foldl_cons, fold_at l _ i (by rw [List.length_set]; exact ha) hi (fun x hx => hl x (by simp [hx]))]
    by_cases hm : (i : Int) ∈ l
    · rw [if_pos hm, if_pos (by simp [hm])]
    · rw [if_neg hm]
      by_cases hj : j.toNat = i
      · have hj' : (i : Int) = j := by omega
        rw [if_pos (by simp [hj'])]
        unfold entAt
        rw [← hj]
        by_cases hlt : j.toNat < acc.length
        · simp [List.getD_eq_getElem?_getD, hlt]
        · omega
      · have hj' : ¬ (i : Int) = j := by omega
        rw [if_neg (by simp [hm, hj'])]
        unfold entAt
        simp [List.getD_eq_getElem?_getD, List.getElem?_set_ne hj]
theorem good_far : goodT farT := ⟨by simp [farT], fun j hj => by rw [ent_far hj]; exact ⟨.inl rfl, by decide, by decide⟩⟩
theorem plain_fold {t : List DEnt} (h : plainT t) : (elemsF (reachT t) 16).foldl (fun a j => a.set j.toNat (entAt t j.toNat)) farT = t := by
  have hf := good_far.1
  refine ent_ext (by rw [fold_len]; exact hf) h.1.1 fun j hj => ?_
  rw [fold_at _ _ j hf hj (fun i hi => (elem_in (Nat.le_refl 16) hi).1)]
  have hr := has_reach t (n := (j : Int)) (by omega) (by omega)
  rw [Int.toNat_natCast] at hr
  split
  · rfl
  · rename_i hm
    have hno : hasF (reachT t) (j : Int) = false := by
      cases hh : hasF (reachT t) (j : Int) with
      | false => rfl
      | true => exact absurd (in_elem (k := 16) (by omega) hh (by omega)) hm
    rw [hno] at hr
    have hfar : (entAt t j).1 = 4294967295 := by
      have := hr.symm
      simpa using this
    rw [ent_far hj]
    have hp := h.2 j hj
    unfold plainE at hp
    rcases hp with hp | ⟨_, _, hp⟩
    · exact Prod.ext hfar.symm hp.symm
    · exact absurd hfar hp
theorem reach_in {t : List DEnt} (h : goodT t) : ∀ j ∈ elemsF (reachT t) 16, 0 ≤ j ∧ j < 16 ∧ goodE (entAt t j.toNat) := fun j hj => by
  obtain ⟨h0, h1, _⟩ := elem_in (Nat.le_refl 16) hj
  exact ⟨h0, h1, h.2 _ (by omega)⟩
def tpRun (s : List UInt8) : Ex × TpS := runF tpStp (tpMu ((0, s, ()), zeroT, farT, ()) + 1) ((0, s, ()), zeroT, farT, ())
theorem tp_told {t : List DEnt} (h : plainT t) : (tpRun (treeB t)).1 = .exit 0 ∧ (tpRun (treeB t)).2.2.2.1 = t := by
  have := tp_ents (t := t) (e := 0) (t2 := zeroT) (elemsF (reachT t) 16) (tpMu ((0, treeB t, ()), zeroT, farT, ()) + 1) farT (reach_in h.1) (Nat.lt_succ_self _)
  have e : tpRun (treeB t) = (.exit 0, ((0, [], ()), zeroT, (elemsF (reachT t) 16).foldl (fun a j => a.set j.toNat (entAt t j.toNat)) farT, ())) := this
  rw [e]
  exact ⟨rfl, plain_fold h⟩
/-! The document's machine -/
def cA (st c : Int) : Bool := bif (bif st == (0 : Int) then decide (c ≥ 97) else false) then decide (c ≤ 112) else false
def cB (st c n : Int) : Bool := bif (bif (bif (bif decide (st > 0) then decide (st < 3) else false) then decide (c ≥ 48) else false) then decide (c ≤ 57) else false) then decide (n < 4294967296) else false
def cC (st c n : Int) : Bool := bif (bif st == (2 : Int) then (bif c == (46 : Int) then true else bif decide (c ≥ 97) then decide (c ≤ 112) else false) else false) then decide (n < 4294967295) else false
def cD (st c : Int) : Bool := bif st == (3 : Int) then c == (32 : Int) else false
abbrev RtS := (List UInt8 × Int × Int × Int × Int × Int × Int × Unit) × List DEnt × List DEnt × Unit
def rtSt (s : List UInt8) (e j n st i : Int) (t2 t4 : List DEnt) : RtS := ((s, e, j, n, st, (s.length : Int), i, ()), t2, t4, ())
def rtStp : RtS → Ex × RtS
  | ((s, e, j, n, st, len, i, _), t2, t4, _) =>
    bif decide (i < len) then
      bif cA st (byteAt s i.toNat : Nat) then (.normal, ((s, e, (byteAt s i.toNat : Int) - 97, 0, 1, len, i + 1, ()), t2, t4, ()))
      else bif cB st (byteAt s i.toNat : Nat) n then (.normal, ((s, e, j, n * 10 + ((byteAt s i.toNat : Int) - 48), 2, len, i + 1, ()), t2, t4, ()))
      else bif cC st (byteAt s i.toNat : Nat) n then (.normal, ((s, e, j, n, 3, len, i + 1, ()), t2, putT t4 j (n, bif (byteAt s i.toNat : Int) != (46 : Int) then (byteAt s i.toNat : Int) - 97 else -1), ()))
      else bif cD st (byteAt s i.toNat : Nat) then (.normal, ((s, e, j, n, 0, len, i + 1, ()), t2, t4, ()))
      else (.ret, ((s, 3, j, n, st, len, i, ()), zeroT, t4, ()))
    else (.exit 0, ((s, e, j, n, st, len, i, ()), t2, t4, ()))
def rtMu (x : RtS) : Nat := (x.1.2.2.2.2.2.1 - x.1.2.2.2.2.2.2.1).toNat
def rtPre (x : RtS) : Prop := x.1.2.2.2.2.2.1 = (x.1.1.length : Int) ∧ x.1.1.length ≤ 1000 ∧ 0 ≤ x.1.2.2.2.2.2.2.1 ∧ x.1.2.2.2.2.2.2.1 ≤ x.1.1.length ∧ 0 ≤ x.1.2.2.2.1 ∧ x.1.2.2.2.1 ≤ 42949672969
theorem rtStp_ends (x : RtS) : (rtStp x).1 = .normal ∨ (rtStp x).1 = .exit 0 ∨ (rtStp x).1 = .ret := by
  obtain ⟨⟨s, e, j, n, st, len, i, ⟨⟩⟩, t2, t4, ⟨⟩⟩ := x
  unfold rtStp
  simp only
  cases decide (i < len) <;> cases cA st (byteAt s i.toNat : Nat) <;> cases cB st (byteAt s i.toNat : Nat) n <;> cases cC st (byteAt s i.toNat : Nat) n <;> cases cD st (byteAt s i.toNat : Nat) <;> simp
theorem cB_in {st c n : Int} (h : cB st c n = true) : 48 ≤ c ∧ c ≤ 57 ∧ n < 4294967296 := by
  unfold cB at h
  have h1 : n < 4294967296 := by
    by_cases h1 : n < 4294967296
    · exact h1
    · rw [decide_eq_false h1] at h
      generalize (bif (bif (bif decide (st > 0) then decide (st < 3) else false) then decide (c ≥ 48) else false) then decide (c ≤ 57) else false) = b at h
      cases b <;> cases h
  have h2 : c ≤ 57 := by
    by_cases h2 : c ≤ 57
    · exact h2
    · rw [decide_eq_false h2] at h
      generalize (bif (bif decide (st > 0) then decide (st < 3) else false) then decide (c ≥ 48) else false) = b at h
      cases b <;> cases h
  have h3 : c ≥ 48 := by
    by_cases h3 : c ≥ 48
    · exact h3
    · rw [decide_eq_false h3] at h
      generalize (bif decide (st > 0) then decide (st < 3) else false) = b at h
      cases b <;> cases h
  omega
theorem rt_go {x : RtS} (hp : rtPre x) (h : (rtStp x).1 = .normal) : rtPre (rtStp x).2 ∧ rtMu (rtStp x).2 < rtMu x := by
  obtain ⟨⟨s, e, j, n, st, len, i, ⟨⟩⟩, t2, t4, ⟨⟩⟩ := x
  obtain ⟨h1, h2, h3, h4, h5, h6⟩ := hp
  simp only at h1 h2 h3 h4 h5 h6
  subst h1
  unfold rtStp at h ⊢
  simp only at h ⊢
  cases hl : decide (i < (s.length : Int)) with
  | false => rw [hl] at h; cases h
  | true =>
    have hlt := of_decide_eq_true hl
    rw [hl] at h
    simp only [cond_true] at h ⊢
    have hb := byteAt_lt s i.toNat
    have hmu : ((s.length : Int) - (i + 1)).toNat < ((s.length : Int) - i).toNat := by omega
    cases hA : cA st (byteAt s i.toNat : Nat) with
    | true => exact ⟨⟨rfl, h2, by show 0 ≤ i + 1; omega, by show i + 1 ≤ (s.length : Int); omega, Int.le_refl _, by show (0 : Int) ≤ 42949672969; decide⟩, hmu⟩
    | false =>
      rw [hA] at h
      simp only [cond_false] at h ⊢
      cases hB : cB st (byteAt s i.toNat : Nat) n with
      | true =>
        have := cB_in hB
        refine ⟨⟨rfl, h2, by show 0 ≤ i + 1; omega, by show i + 1 ≤ (s.length : Int); omega, ?_, ?_⟩, hmu⟩
        · show 0 ≤ n * 10 + ((byteAt s i.toNat : Int) - 48); omega
        · show n * 10 + ((byteAt s i.toNat : Int) - 48) ≤ 42949672969; omega
      | false =>
        rw [hB] at h
        simp only [cond_false] at h ⊢
        cases hC : cC st (byteAt s i.toNat : Nat) n with
        | true => exact ⟨⟨rfl, h2, by show 0 ≤ i + 1; omega, by show i + 1 ≤ (s.length : Int); omega, h5, h6⟩, hmu⟩
        | false =>
          rw [hC] at h
          simp only [cond_false] at h ⊢
          cases hD : cD st (byteAt s i.toNat : Nat) with
          | true => exact ⟨⟨rfl, h2, by show 0 ≤ i + 1; omega, by show i + 1 ≤ (s.length : Int); omega, h5, h6⟩, hmu⟩
          | false => rw [hD] at h; cases h
theorem cC_in {st c n : Int} (h : cC st c n = true) : n < 4294967295 ∧ (c = 46 ∨ 97 ≤ c ∧ c ≤ 112) := by
  unfold cC at h
  have h1 : n < 4294967295 := by
    by_cases h1 : n < 4294967295
    · exact h1
    · rw [decide_eq_false h1] at h
      generalize (bif st == (2 : Int) then (bif c == (46 : Int) then true else bif decide (c ≥ 97) then decide (c ≤ 112) else false) else false) = b at h
      cases b <;> cases h
  refine ⟨h1, ?_⟩
  by_cases h2 : c = 46
  · exact .inl h2
  · right
    have e : (c == (46 : Int)) = false := by simpa using h2
    rw [e] at h
    by_cases h3 : c ≥ 97
    · by_cases h4 : c ≤ 112
      · exact ⟨h3, h4⟩
      · rw [decide_eq_true h3, decide_eq_false h4] at h
        cases hs : st == (2 : Int) <;> rw [hs] at h <;> cases h
    · rw [decide_eq_false h3] at h
      cases hs : st == (2 : Int) <;> rw [hs] at h <;> cases h
theorem good_put {t : List DEnt} {j : Int} {e : DEnt} (h : goodT t) (he : goodE e) : goodT (putT t j e) := by
  unfold putT
  cases hr : rightF j with
  | false => exact h
  | true =>
    have := rightF_iff.1 hr
    exact good_set h (by omega) he
/-- What the machine comes to. -/
theorem rt_inv : ∀ (n : Nat) (x : RtS), (goodT x.2.2.1 ∧ 0 ≤ x.1.2.2.2.1) → rtMu x < n → ((isRet (runF rtStp n x).1 = true → (runF rtStp n x).2.2.1 = zeroT ∧ (runF rtStp n x).2.1.2.1 = 3) ∧ goodT (runF rtStp n x).2.2.2.1) :=
  fun n x hx hn => runF_inv (stp := rtStp) (J := fun x => goodT x.2.2.1 ∧ 0 ≤ x.1.2.2.2.1) (Post := fun p => (isRet p.1 = true → p.2.2.1 = zeroT ∧ p.2.1.2.1 = 3) ∧ goodT p.2.2.2.1) (μ := rtMu) (fun x hx => by
    obtain ⟨⟨s, e, j, n, st, len, i, ⟨⟩⟩, t2, t4, ⟨⟩⟩ := x
    obtain ⟨hx, h5⟩ := hx
    simp only at hx h5
    unfold rtStp
    simp only
    cases hl : decide (i < len) with
    | false => exact ⟨nofun, fun _ => ⟨nofun, hx⟩⟩
    | true =>
      have hlt := of_decide_eq_true hl
      simp only [cond_true]
      have hb := byteAt_lt s i.toNat
      have hmu : (len - (i + 1)).toNat < (len - i).toNat := by omega
      cases hA : cA st (byteAt s i.toNat : Nat) with
      | true => exact ⟨fun _ => ⟨⟨hx, Int.le_refl _⟩, hmu⟩, fun h => absurd rfl h⟩
      | false =>
        simp only [cond_false]
        cases hB : cB st (byteAt s i.toNat : Nat) n with
        | true =>
          have := cB_in hB
          exact ⟨fun _ => ⟨⟨hx, by show 0 ≤ n * 10 + ((byteAt s i.toNat : Int) - 48); omega⟩, hmu⟩, fun h => absurd rfl h⟩
        | false =>
          simp only [cond_false]
          cases hC : cC st (byteAt s i.toNat : Nat) n with
          | true =>
            have hc := cC_in hC
            refine ⟨fun _ => ⟨⟨good_put hx ⟨?_, h5, ?_⟩, h5⟩, hmu⟩, fun h => absurd rfl h⟩
            · rcases hc.2 with h46 | ⟨h97, h112⟩
              · left
                have e : (((byteAt s i.toNat : Nat) : Int) != (46 : Int)) = false := by simpa using h46
                rw [e]; rfl
              · right
                have e : (((byteAt s i.toNat : Nat) : Int) != (46 : Int)) = true := by simp; omega
                rw [e]
                show 0 ≤ ((byteAt s i.toNat : Nat) : Int) - 97 ∧ ((byteAt s i.toNat : Nat) : Int) - 97 < 16
                omega
            · show n ≤ 4294967295; omega
          | false =>
            simp only [cond_false]
            cases hD : cD st (byteAt s i.toNat : Nat) with
            | true => exact ⟨fun _ => ⟨⟨hx, h5⟩, hmu⟩, fun h => absurd rfl h⟩
            | false => exact ⟨nofun, fun _ => ⟨fun _ => ⟨rfl, rfl⟩, hx⟩⟩) n x hx hn
def rtRun (x : RtS) : Ex × RtS := runF rtStp (rtMu x + 1) x
theorem rtr_go {x y : RtS} (hp : rtPre x) (h : rtStp x = (.normal, y)) : rtPre y ∧ rtRun x = rtRun y := by
  have h1 : (rtStp x).1 = .normal := by rw [h]
  obtain ⟨g1, g2⟩ := rt_go hp h1
  rw [h] at g1 g2
  refine ⟨g1, ?_⟩
  unfold rtRun
  rw [runF_go h]
  exact runF_fuel (pre := rtPre) (μ := rtMu) (fun z hz hn => rt_go hz hn) _ _ _ g1 g2 (by omega)
end Go.Ev
/- A command read letter by letter. -/
set_option linter.unusedVariables false
set_option linter.unusedSimpArgs false
namespace Go.Ev
abbrev DgS := (Int × Unit) × DCmd × DCmd × (List UInt8 × Nat) × Unit
def dgStp : DgS → Ex × DgS
  | ((e, _), c2, c4, (y, pos), _) =>
    bif Nat.blt pos y.length then
      bif badD 1048576 ((decL y pos).1 : Int) c4.2.2 then (.ret, ((3, ()), (0, 0, 0), c4, (y, decN y pos), ()))
      else (.normal, ((e, ()), c2, (c4.1, c4.2.1, c4.2.2 * 10 + (((decL y pos).1 : Int) - 48)), (y, decN y pos), ()))
    else (.exit 3, ((e, ()), c2, c4, (y, decN y pos), ()))
def dgMu (x : DgS) : Nat := x.2.2.2.1.1.length - x.2.2.2.1.2
def dgPre (x : DgS) : Prop := 0 ≤ x.2.2.1.2.2 ∧ x.2.2.1.2.2 ≤ 10485769
theorem dgStp_ends (x : DgS) : (dgStp x).1 = .normal ∨ (dgStp x).1 = .exit 3 ∨ (dgStp x).1 = .ret := by
  obtain ⟨⟨e, ⟨⟩⟩, c2, c4, ⟨y, pos⟩, ⟨⟩⟩ := x
  unfold dgStp
  simp only
  cases Nat.blt pos y.length with
  | false => exact .inr (.inl rfl)
  | true => cases badD 1048576 ((decL y pos).1 : Int) c4.2.2 with
    | true => exact .inr (.inr rfl)
    | false => exact .inl rfl
theorem dg_go {x : DgS} (h : (dgStp x).1 = .normal) (h0 : dgPre x) : dgPre (dgStp x).2 ∧ dgMu (dgStp x).2 < dgMu x := by
  obtain ⟨⟨e, ⟨⟩⟩, c2, c4, ⟨y, pos⟩, ⟨⟩⟩ := x
  unfold dgStp at h ⊢
  simp only at h ⊢
  cases hb : Nat.blt pos y.length with
  | false => rw [hb] at h; cases h
  | true =>
    rw [hb] at h
    cases hc : badD 1048576 ((decL y pos).1 : Int) c4.2.2 with
    | true => rw [hc] at h; cases h
    | false =>
      have := badD_no hc
      obtain ⟨h1, h2⟩ := h0
      simp only at h1 h2
      refine ⟨⟨?_, ?_⟩, decN_lt hb⟩
      · show 0 ≤ c4.2.2 * 10 + (((decL y pos).1 : Int) - 48)
        omega
      · show c4.2.2 * 10 + (((decL y pos).1 : Int) - 48) ≤ 10485769
        omega
theorem dg_pre : ∀ (n : Nat) (x : DgS), dgPre x → dgMu x < n → dgPre (runF dgStp n x).2 ∧ (isRet (runF dgStp n x).1 = true → (runF dgStp n x).2.1.1 = 3 ∧ (runF dgStp n x).2.2.1 = (0, 0, 0)) :=
  fun n x hx hn => runF_inv (stp := dgStp) (J := dgPre) (Post := fun p => dgPre p.2 ∧ (isRet p.1 = true → p.2.1.1 = 3 ∧ p.2.2.1 = (0, 0, 0))) (μ := dgMu) (fun x hx => by
    refine ⟨fun hn => dg_go hn hx, fun hn => ?_⟩
    obtain ⟨⟨e, ⟨⟩⟩, c2, c4, ⟨y, pos⟩, ⟨⟩⟩ := x
    unfold dgStp at hn ⊢
    simp only at hn ⊢
    cases hb : Nat.blt pos y.length with
    | false => exact ⟨hx, fun h => (by cases h)⟩
    | true =>
      rw [hb] at hn
      cases hc : badD 1048576 ((decL y pos).1 : Int) c4.2.2 with
      | true => exact ⟨hx, fun _ => ⟨rfl, rfl⟩⟩
      | false => rw [hc] at hn; exact absurd rfl hn) n x hx hn
def dgEnd (o : Option Int) (a b : Int) (p : Ex × DgS) : Prop := match o with
  | none => p.1 = .ret
  | some v => p.1 = .exit 3 ∧ p.2.2.2.1 = (a, b, v)
theorem dg_run {y : List UInt8} {o : Option Int} {a b : Int} : ∀ (n : Nat) (x : DgS), (x.2.2.2.1.1 = y ∧ x.2.2.1.1 = a ∧ x.2.2.1.2.1 = b ∧ dgPre x ∧ numGo 1048576 (y.drop x.2.2.2.1.2) x.2.2.1.2.2 = o) → dgMu x < n → dgEnd o a b (runF dgStp n x) :=
  runF_inv fun x hx => by
    obtain ⟨h1, ha, hb', hp, h2⟩ := hx
    have hgo := fun hn => dg_go (x := x) hn hp
    obtain ⟨⟨er, ⟨⟩⟩, c2, ⟨k, nd, s⟩, ⟨y', pos⟩, ⟨⟩⟩ := x
    simp only at h1 h2 ha hb'
    subst h1 ha hb'
    cases hb : Nat.blt pos y'.length with
    | false =>
      have hlt : ¬ pos < y'.length := fun h => by rw [blt_iff.2 h] at hb; cases hb
      have e : dgStp ((er, ()), c2, (k, nd, s), (y', pos), ()) = (.exit 3, ((er, ()), c2, (k, nd, s), (y', decN y' pos), ())) := by unfold dgStp; simp only; rw [hb]; rfl
      rw [e]
      refine ⟨fun h => (by cases h), fun _ => ?_⟩
      rw [List.drop_eq_nil_of_le (by omega), numGo] at h2
      subst h2
      exact ⟨rfl, rfl⟩
    | true =>
      have hlt := blt_iff.1 hb
      rw [drop_byte hlt, numGo] at h2
      cases hc : badD 1048576 ((decL y' pos).1 : Int) s with
      | true =>
        have e : dgStp ((er, ()), c2, (k, nd, s), (y', pos), ()) = (.ret, ((3, ()), (0, 0, 0), (k, nd, s), (y', decN y' pos), ())) := by unfold dgStp; simp only; rw [hb, hc]; rfl
        rw [e]
        refine ⟨fun h => (by cases h), fun _ => ?_⟩
        have h3 : o = none := by
          by_cases hlow : byteAt y' pos < 128
          · have e : ((y'.getD pos 0).toNat : Int) = ((decL y' pos).1 : Int) := by rw [decL_low hlow]; rfl
            rw [e, ← badD_eq, hc] at h2
            exact h2.symm
          · rw [← badD_eq, badD_high (by have : byteAt y' pos = (y'.getD pos 0).toNat := rfl; omega)] at h2
            exact h2.symm
        subst h3
        exact rfl
      | false =>
        have e : dgStp ((er, ()), c2, (k, nd, s), (y', pos), ()) = (.normal, ((er, ()), c2, (k, nd, s * 10 + (((decL y' pos).1 : Int) - 48)), (y', decN y' pos), ())) := by unfold dgStp; simp only; rw [hb, hc]; rfl
        rw [e] at hgo ⊢
        refine ⟨fun _ => ⟨⟨rfl, rfl, rfl, (hgo rfl).1, ?_⟩, decN_lt hb⟩, fun h => absurd rfl h⟩
        by_cases hlow : byteAt y' pos < 128
        · have e : ((y'.getD pos 0).toNat : Int) = ((decL y' pos).1 : Int) := by rw [decL_low hlow]; rfl
          rw [e, ← badD_eq, hc] at h2
          simp only
          rw [decN_low hlt hlow]
          exact h2
        · rw [badD_high (by have := (decL_high hlow).1; omega)] at hc
          cases hc
/-! The whole -/
def kUp (t : List UInt8) (c : DCmd) : DCmd := (bif wordK 4 == t then 4 else bif wordK 3 == t then 3 else bif wordK 2 == t then 2 else bif wordK 1 == t then 1 else c.1, c.2)
def rDg (e : Int) (c2 c4 : DCmd) (t : List UInt8) : Ex × DgS := runF dgStp (dgMu ((e, ()), c2, c4, (t, 0), ()) + 1) ((e, ()), c2, c4, (t, 0), ())
abbrev RS := (Int × Int × List UInt8 × Unit) × DCmd × DCmd × (List UInt8 × Nat) × Unit
def rSt (e w : Int) (t : List UInt8) (c2 c4 : DCmd) (y : List UInt8) (pos : Nat) : RS := ((e, w, t, ()), c2, c4, (y, pos), ())
def rStp : RS → Ex × RS
  | ((e, w, t, _), c2, c4, (y, pos), _) =>
    bif Nat.blt pos y.length then
      bif ((decL y pos).1 : Int) != (32 : Int) then (.normal, ((e, w, t ++ encR ((decL y pos).1 : Int), ()), c2, c4, (y, decN y pos), ()))
      else bif w == (0 : Int) then (.normal, ((e, w + 1, [], ()), c2, kUp t c4, (y, decN y pos), ()))
      else bif w == (1 : Int) then
        bif (bif (nparseF t).2 != (0 : Int) then true else (((elemsF (nparseF t).1 16).length : Int) != (1 : Int))) then (.ret, ((3, w, t, ()), (0, 0, 0), c4, (y, decN y pos), ()))
        else (.normal, ((e, w + 1, [], ()), c2, (c4.1, (elemsF (nparseF t).1 16).getD 0 0, c4.2.2), (y, decN y pos), ()))
      else bif isRet (rDg e c2 c4 t).1 then (.ret, (((rDg e c2 c4 t).2.1.1, w, t, ()), (rDg e c2 c4 t).2.2.1, (rDg e c2 c4 t).2.2.2.1, (y, decN y pos), ()))
      else (.normal, (((rDg e c2 c4 t).2.1.1, w + 1, [], ()), (rDg e c2 c4 t).2.2.1, (rDg e c2 c4 t).2.2.2.1, (y, decN y pos), ()))
    else (.exit 0, ((e, w, t, ()), c2, c4, (y, decN y pos), ()))
def rPre (x : RS) : Prop := x.2.2.2.1.1.length ≤ 41 ∧ x.2.2.2.1.2 ≤ x.2.2.2.1.1.length ∧ x.1.2.2.1.length ≤ 4 * x.2.2.2.1.2 ∧ 0 ≤ x.1.2.1 ∧ x.1.2.1 ≤ x.2.2.2.1.2 ∧ 0 ≤ x.2.2.1.2.2 ∧ x.2.2.1.2.2 ≤ 10485769
def rMu (x : RS) : Nat := x.2.2.2.1.1.length - x.2.2.2.1.2
theorem rStp_ends (x : RS) : (rStp x).1 = .normal ∨ (rStp x).1 = .exit 0 ∨ (rStp x).1 = .ret := by
  obtain ⟨⟨e, w, t, ⟨⟩⟩, c2, c4, ⟨y, pos⟩, ⟨⟩⟩ := x
  unfold rStp
  simp only
  cases Nat.blt pos y.length <;> cases ((decL y pos).1 : Int) != (32 : Int) <;> cases w == (0 : Int) <;> cases w == (1 : Int) <;>
    cases (bif (nparseF t).2 != (0 : Int) then true else (((elemsF (nparseF t).1 16).length : Int) != (1 : Int))) <;> cases isRet (rDg e c2 c4 t).1 <;> simp
theorem encR_four (n : Int) : (encR n).length ≤ 4 := by
  unfold encR Utf8.encode
  simp only
  repeat' split
  all_goals simp
theorem r_go {x : RS} (hp : rPre x) (h : (rStp x).1 = .normal) : rPre (rStp x).2 ∧ rMu (rStp x).2 < rMu x := by
  obtain ⟨⟨e, w, t, ⟨⟩⟩, c2, ⟨k, nd, s⟩, ⟨y, pos⟩, ⟨⟩⟩ := x
  obtain ⟨h1, h2, h3, h4, h5, h6, h7⟩ := hp
  simp only at h1 h2 h3 h4 h5 h6 h7
  have hle := decN_le h2
  unfold rStp at h ⊢
  simp only at h ⊢
  cases hb : Nat.blt pos y.length with
  | false => rw [hb] at h; cases h
  | true =>
    have hlt := blt_iff.1 hb
    have hN := decN_go hlt
    have hpos := decL_pos y pos
    rw [hb] at h
    simp only [cond_true] at h ⊢
    cases hc : ((decL y pos).1 : Int) != (32 : Int) with
    | true =>
      simp only [cond_true]
      have := encR_four ((decL y pos).1 : Int)
      refine ⟨⟨h1, hle, ?_, h4, ?_, h6, h7⟩, decN_lt hb⟩
      · simp only [List.length_append]; omega
      · simp only; omega
    | false =>
      rw [hc] at h
      simp only [cond_false] at h ⊢
      cases hw : w == (0 : Int) with
      | true =>
        simp only [cond_true]
        refine ⟨⟨h1, hle, Nat.zero_le _, ?_, ?_, h6, h7⟩, decN_lt hb⟩
        · simp only; omega
        · simp only; omega
      | false =>
        rw [hw] at h
        simp only [cond_false] at h ⊢
        cases hw1 : w == (1 : Int) with
        | true =>
          rw [hw1] at h
          simp only [cond_true] at h ⊢
          cases hn : (bif (nparseF t).2 != (0 : Int) then true else (((elemsF (nparseF t).1 16).length : Int) != (1 : Int))) with
          | true => rw [hn] at h; cases h
          | false =>
            simp only [cond_false]
            refine ⟨⟨h1, hle, Nat.zero_le _, ?_, ?_, h6, h7⟩, decN_lt hb⟩
            · simp only; omega
            · simp only; omega
        | false =>
          rw [hw1] at h
          simp only [cond_false] at h ⊢
          have hd := dg_pre (dgMu ((e, ()), c2, (k, nd, s), (t, 0), ()) + 1) ((e, ()), c2, (k, nd, s), (t, 0), ()) ⟨h6, h7⟩ (by omega)
          change dgPre (rDg e c2 (k, nd, s) t).2 ∧ _ at hd
          cases hr : isRet (rDg e c2 (k, nd, s) t).1 with
          | true => rw [hr] at h; cases h
          | false =>
            simp only [cond_false]
            refine ⟨⟨h1, hle, Nat.zero_le _, ?_, ?_, hd.1.1, hd.1.2⟩, decN_lt hb⟩
            · simp only; omega
            · simp only; omega
def rRun (x : RS) : Ex × RS := runF rStp (rMu x + 1) x
theorem rr_go {x y : RS} (hp : rPre x) (h : rStp x = (.normal, y)) : rPre y ∧ rRun x = rRun y := by
  have h1 : (rStp x).1 = .normal := by rw [h]
  obtain ⟨g1, g2⟩ := r_go hp h1
  rw [h] at g1 g2
  refine ⟨g1, ?_⟩
  unfold rRun
  rw [runF_go h]
  exact runF_fuel (pre := rPre) (μ := rMu) (fun z hz hn => r_go hz hn) _ _ _ g1 g2 (by omega)
theorem rr_end {x : RS} (h : (rStp x).1 ≠ .normal) : rRun x = rStp x := runF_end h
/-- Where it leaves the function, it says so. -/
theorem rr_ret {x : RS} (hp : rPre x) : (isRet (rRun x).1 = true → (rRun x).2.2.1 = (0, 0, 0) ∧ (rRun x).2.1.1 = 3) ∧ (isRet (rRun x).1 = false → (rRun x).1 = .exit 0) := by
  refine runF_inv (stp := rStp) (J := rPre) (Post := fun p => (isRet p.1 = true → p.2.2.1 = (0, 0, 0) ∧ p.2.1.1 = 3) ∧ (isRet p.1 = false → p.1 = .exit 0)) (μ := rMu) (fun x hx => ⟨fun hn => r_go hx hn, fun hn => ?_⟩) _ x hp (by omega)
  have he := (rStp_ends x).resolve_left hn
  refine ⟨fun h => ?_, fun h => he.resolve_right (fun h2 => by rw [h2] at h; cases h)⟩
  obtain ⟨⟨e, w, t, ⟨⟩⟩, c2, ⟨k, nd, s⟩, ⟨y, pos⟩, ⟨⟩⟩ := x
  obtain ⟨h1, h2, h3, h4, h5, h6, h7⟩ := hx
  simp only at h1 h2 h3 h4 h5 h6 h7
  have hd := dg_pre (dgMu ((e, ()), c2, (k, nd, s), (t, 0), ()) + 1) ((e, ()), c2, (k, nd, s), (t, 0), ()) ⟨h6, h7⟩ (by omega)
  change dgPre (rDg e c2 (k, nd, s) t).2 ∧ (isRet (rDg e c2 (k, nd, s) t).1 = true → (rDg e c2 (k, nd, s) t).2.1.1 = 3 ∧ (rDg e c2 (k, nd, s) t).2.2.1 = (0, 0, 0)) at hd
  clear he hn
  unfold rStp at h ⊢
  simp only at h ⊢
  cases hb : Nat.blt pos y.length with
  | false => rw [hb] at h; cases h
  | true =>
    rw [hb] at h
    simp only [cond_true] at h ⊢
    cases hc : ((decL y pos).1 : Int) != (32 : Int) with
    | true => rw [hc] at h; cases h
    | false =>
      rw [hc] at h
      simp only [cond_false] at h ⊢
      cases hw : w == (0 : Int) with
      | true => rw [hw] at h; cases h
      | false =>
        rw [hw] at h
        simp only [cond_false] at h ⊢
        cases hw1 : w == (1 : Int) with
        | true =>
          rw [hw1] at h
          simp only [cond_true] at h ⊢
          cases hn : (bif (nparseF t).2 != (0 : Int) then true else (((elemsF (nparseF t).1 16).length : Int) != (1 : Int))) with
          | true => exact ⟨rfl, rfl⟩
          | false => rw [hn] at h; cases h
        | false =>
          rw [hw1] at h
          simp only [cond_false] at h ⊢
          cases hr : isRet (rDg e c2 (k, nd, s) t).1 with
          | true => exact ⟨(hd.2 hr).2, (hd.2 hr).1⟩
          | false => rw [hr] at h; cases h
end Go.Ev
