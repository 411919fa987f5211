/- Words and numbers of a text, round by round. -/
import Derived.Lib.SplitLaws
import Derived.Recover
import Derived.Lib.ParseIntBCases
import Derived.Test.YtohodbfoeejbjaaDoorTextConfBack7

set_option linter.unusedVariables false
set_option linter.unusedSimpArgs false
namespace Go.Ev
/-! Numbers -/
def badD (top r n : Int) : Bool := bif (bif decide (r < 48) then true else decide (r > 57)) then true else decide (n > top)
abbrev NumS := (Int × Int × Unit) × (List UInt8 × Nat) × Unit
def numStp (x : NumS) : Ex × NumS :=
  bif Nat.blt x.2.1.2 x.2.1.1.length then
    bif badD 65536 ((decL x.2.1.1 x.2.1.2).1 : Int) x.1.2.1 then (.ret, ((-1, x.1.2.1, ()), (x.2.1.1, decN x.2.1.1 x.2.1.2), ()))
    else (.normal, ((x.1.1, x.1.2.1 * 10 + (((decL x.2.1.1 x.2.1.2).1 : Int) - 48), ()), (x.2.1.1, decN x.2.1.1 x.2.1.2), ()))
  else (.exit 0, (x.1, (x.2.1.1, decN x.2.1.1 x.2.1.2), ()))
def numMu (x : NumS) : Nat := x.2.1.1.length - x.2.1.2
theorem badD_eq (top r n : Int) : badD top r n = (bif decide (r < 48) then true else bif decide (r > 57) then true else decide (n > top)) := by
  unfold badD
  cases decide (r < 48) <;> rfl
theorem badD_high {top r n : Int} (h : 128 ≤ r) : badD top r n = true := by
  unfold badD
  rw [decide_eq_true (show r > 57 by omega)]
  cases decide (r < 48) <;> rfl
theorem badD_no {top r n : Int} (h : badD top r n = false) : 48 ≤ r ∧ r ≤ 57 ∧ n ≤ top := by
  unfold badD at h
  by_cases h1 : r < 48
  · rw [decide_eq_true h1] at h; cases h
  · by_cases h2 : r > 57
    · rw [decide_eq_false h1, decide_eq_true h2] at h; cases h
    · by_cases h3 : n > top
      · rw [decide_eq_false h1, decide_eq_false h2, decide_eq_true h3] at h; cases h
      · omega
theorem numStp_ends (x : NumS) : (numStp x).1 = .normal ∨ (numStp x).1 = .exit 0 ∨ (numStp x).1 = .ret := by
  unfold numStp
  cases Nat.blt x.2.1.2 x.2.1.1.length with
  | false => exact .inr (.inl rfl)
  | true => cases badD 65536 ((decL x.2.1.1 x.2.1.2).1 : Int) x.1.2.1 with
    | true => exact .inr (.inr rfl)
    | false => exact .inl rfl
theorem num_go {x : NumS} (h : (numStp x).1 = .normal) (h0 : 0 ≤ x.1.2.1 ∧ x.1.2.1 ≤ 655369) : (0 ≤ (numStp x).2.1.2.1 ∧ (numStp x).2.1.2.1 ≤ 655369) ∧ numMu (numStp x).2 < numMu x := by
  unfold numStp at h ⊢
  cases hb : Nat.blt x.2.1.2 x.2.1.1.length with
  | false => rw [hb] at h; cases h
  | true =>
    rw [hb] at h
    cases hc : badD 65536 ((decL x.2.1.1 x.2.1.2).1 : Int) x.1.2.1 with
    | true => rw [hc] at h; cases h
    | false =>
      have := badD_no hc
      refine ⟨?_, decN_lt hb⟩
      simp only [cond_true, cond_false]
      omega
def numEnd (o : Option Int) (p : Ex × NumS) : Prop := match o with
  | none => p.1 = .ret ∧ p.2.1.1 = -1
  | some v => p.1 = .exit 0 ∧ p.2.1.2.1 = v
theorem num_run {y : List UInt8} {o : Option Int} : ∀ (n : Nat) (x : NumS), (x.2.1.1 = y ∧ numGo 65536 (y.drop x.2.1.2) x.1.2.1 = o) → numMu x < n → numEnd o (runF numStp n x) :=
  runF_inv fun x hx => by
    obtain ⟨⟨a, s, ⟨⟩⟩, ⟨y', pos⟩, ⟨⟩⟩ := x
    obtain ⟨h1, h2⟩ := hx
    simp only at h1 h2
    subst h1
    cases hb : Nat.blt pos y'.length with
    | false =>
      have hlt : ¬ pos < y'.length := fun h => by rw [blt_iff.2 h] at hb; cases hb
      have e : numStp ((a, s, ()), (y', pos), ()) = (.exit 0, ((a, s, ()), (y', decN y' pos), ())) := by unfold numStp; simp only; rw [hb]; rfl
      rw [e]
      refine ⟨fun h => (by cases h), fun _ => ?_⟩
      rw [List.drop_eq_nil_of_le (by omega), numGo] at h2
      subst h2
      exact ⟨rfl, rfl⟩
    | true =>
      have hlt := blt_iff.1 hb
      rw [drop_byte hlt, numGo] at h2
      cases hc : badD 65536 ((decL y' pos).1 : Int) s with
      | true =>
        have e : numStp ((a, s, ()), (y', pos), ()) = (.ret, ((-1, s, ()), (y', decN y' pos), ())) := by unfold numStp; simp only; rw [hb, hc]; rfl
        rw [e]
        refine ⟨fun h => (by cases h), fun _ => ?_⟩
        have h3 : o = none := by
          by_cases hlow : byteAt y' pos < 128
          · have e : ((y'.getD pos 0).toNat : Int) = ((decL y' pos).1 : Int) := by rw [decL_low hlow]; rfl
            rw [e, ← badD_eq, hc] at h2
            exact h2.symm
          · rw [← badD_eq, badD_high (by have : byteAt y' pos = (y'.getD pos 0).toNat := rfl; omega)] at h2
            exact h2.symm
        subst h3
        exact ⟨rfl, rfl⟩
      | false =>
        have e : numStp ((a, s, ()), (y', pos), ()) = (.normal, ((a, s * 10 + (((decL y' pos).1 : Int) - 48), ()), (y', decN y' pos), ())) := by unfold numStp; simp only; rw [hb, hc]; rfl
        rw [e]
        refine ⟨fun _ => ⟨⟨rfl, ?_⟩, decN_lt hb⟩, fun h => absurd rfl h⟩
        by_cases hlow : byteAt y' pos < 128
        · have e : ((y'.getD pos 0).toNat : Int) = ((decL y' pos).1 : Int) := by rw [decL_low hlow]; rfl
          rw [e, ← badD_eq, hc] at h2
          simp only
          rw [decN_low hlt hlow]
          exact h2
        · rw [badD_high (by have := (decL_high hlow).1; omega)] at hc
          cases hc
theorem num_all (y : List UInt8) (a : Int) : numEnd (numGo 65536 y 0) (runF numStp (numMu ((a, 0, ()), (y, 0), ()) + 1) ((a, 0, ()), (y, 0), ())) :=
  num_run _ _ ⟨rfl, rfl⟩ (by omega)
/-! Words -/
abbrev WS := (List UInt8 × Int × Unit) × List (List UInt8) × (List UInt8 × Nat) × Unit
def wStp (x : WS) : Ex × WS :=
  bif Nat.blt x.2.2.1.2 x.2.2.1.1.length then
    bif ((decL x.2.2.1.1 x.2.2.1.2).1 : Int) == (32 : Int) then (.normal, ((x.1.1, (x.2.2.1.2 : Int) + 1, ()), x.2.1 ++ [(x.1.1.take x.2.2.1.2).drop x.1.2.1.toNat], (x.2.2.1.1, decN x.2.2.1.1 x.2.2.1.2), ()))
    else (.normal, (x.1, x.2.1, (x.2.2.1.1, decN x.2.2.1.1 x.2.2.1.2), ()))
  else (.exit 0, (x.1, x.2.1, (x.2.2.1.1, decN x.2.2.1.1 x.2.2.1.2), ()))
def wMu (x : WS) : Nat := x.2.2.1.1.length - x.2.2.1.2
def wPre (x : WS) : Prop := x.2.2.1.1 = x.1.1 ∧ x.1.1.length ≤ 1000 ∧ 0 ≤ x.1.2.1 ∧ x.1.2.1 ≤ x.2.2.1.2 ∧ x.2.2.1.2 ≤ x.1.1.length ∧ x.2.1.length ≤ x.2.2.1.2
theorem wStp_ends (x : WS) : (wStp x).1 = .normal ∨ (wStp x).1 = .exit 0 := by
  unfold wStp
  cases Nat.blt x.2.2.1.2 x.2.2.1.1.length with
  | false => exact .inr rfl
  | true => cases ((decL x.2.2.1.1 x.2.2.1.2).1 : Int) == (32 : Int) <;> exact .inl rfl
theorem decN_le {y : List UInt8} {pos : Nat} (h : pos ≤ y.length) : decN y pos ≤ y.length := by
  by_cases hlt : pos < y.length
  · rw [decN_go hlt]
    by_cases hlow : byteAt y pos < 128
    · rw [decL_low hlow]; simp only; omega
    · have h2 := decL_pos y pos
      by_cases h1 : (decL y pos).2 = 1
      · omega
      · have := ((decL_high hlow).2 (pos + (decL y pos).2 - 1) (by omega) (by omega)).2 (by omega)
        omega
  · unfold decN
    rw [blt_no hlt]
    exact h
theorem w_go {x : WS} (hp : wPre x) (h : (wStp x).1 = .normal) : wPre (wStp x).2 ∧ wMu (wStp x).2 < wMu x := by
  obtain ⟨⟨s, st, ⟨⟩⟩, out, ⟨y, pos⟩, ⟨⟩⟩ := x
  obtain ⟨h1, h2, h3, h4, h5, h6⟩ := hp
  simp only at h1 h2 h3 h4 h5 h6
  subst h1
  have hle := decN_le h5
  cases hb : Nat.blt pos y.length with
  | false => unfold wStp at h; simp only at h; rw [hb] at h; cases h
  | true =>
    have hlt := blt_iff.1 hb
    have hN := decN_go hlt
    have hp := decL_pos y pos
    unfold wStp
    simp only
    rw [hb]
    cases hc : ((decL y pos).1 : Int) == (32 : Int) with
    | true =>
      simp only [cond_true]
      refine ⟨⟨rfl, h2, ?_, ?_, hle, ?_⟩, decN_lt hb⟩
      all_goals simp only
      · omega
      · omega
      · show (out ++ [_]).length ≤ decN y pos
        simp only [List.length_append, List.length_cons, List.length_nil]; omega
    | false =>
      simp only [cond_true, cond_false]
      refine ⟨⟨rfl, h2, h3, ?_, hle, ?_⟩, decN_lt hb⟩
      all_goals simp only
      · omega
      · omega
theorem take_more {s : List UInt8} {i : Nat} (h : i < s.length) : s.take (i + 1) = s.take i ++ [s.getD i 0] := by
  rw [List.take_add_one]
  simp [List.getD, h]
/-- Bytes that are no blank. -/
theorem words_skip {s : List UInt8} {st : Nat} : ∀ (k pos : Nat), st ≤ pos → pos + k ≤ s.length → (∀ j, pos ≤ j → j < pos + k → byteAt s j ≠ 32) → wordsGo (s.drop pos) ((s.take pos).drop st) = wordsGo (s.drop (pos + k)) ((s.take (pos + k)).drop st)
  | 0, pos, _, _, _ => rfl
  | k + 1, pos, h1, h2, h3 => by
    have hlt : pos < s.length := by omega
    have hb : (s.getD pos 0 == 32) = false := by
      have := h3 pos (Nat.le_refl _) (by omega)
      unfold byteAt at this
      simp only [beq_eq_false_iff_ne, ne_eq]
      intro e
      rw [e] at this
      exact this rfl
    rw [drop_byte hlt, wordsGo, hb]
    simp only [cond_false]
    have e : (s.take pos).drop st ++ [s.getD pos 0] = (s.take (pos + 1)).drop st := by
      rw [take_more hlt, List.drop_append_of_le_length (by rw [List.length_take]; omega)]
    rw [e, words_skip k (pos + 1) (by omega) (by omega) (fun j h4 h5 => h3 j (by omega) (by omega)), show pos + 1 + k = pos + (k + 1) by omega]
def wEnd (s : List UInt8) (p : Ex × WS) : Prop := p.1 = .exit 0 ∧ p.2.1.1 = s ∧ 0 ≤ p.2.1.2.1 ∧ p.2.1.2.1 ≤ s.length ∧ p.2.2.1.length ≤ s.length ∧ p.2.2.1 ++ [s.drop p.2.1.2.1.toNat] = wordsF s
theorem w_run {s : List UInt8} : ∀ (n : Nat) (x : WS), (wPre x ∧ x.1.1 = s ∧ x.2.1 ++ wordsGo (s.drop x.2.2.1.2) ((s.take x.2.2.1.2).drop x.1.2.1.toNat) = wordsF s) → wMu x < n → wEnd s (runF wStp n x) :=
  runF_inv fun x hx => by
    obtain ⟨hp, h1, h2⟩ := hx
    refine ⟨fun hn => ?_, fun hn => ?_⟩
    · obtain ⟨g1, g2⟩ := w_go hp hn
      refine ⟨⟨g1, ?_⟩, g2⟩
      obtain ⟨⟨s', st, ⟨⟩⟩, out, ⟨y, pos⟩, ⟨⟩⟩ := x
      obtain ⟨p1, p2, p3, p4, p5, p6⟩ := hp
      simp only at h1 h2 p1 p2 p3 p4 p5 p6
      subst p1
      subst h1
      cases hb : Nat.blt pos y.length with
      | false => unfold wStp at hn; simp only at hn; rw [hb] at hn; cases hn
      | true =>
        have hlt := blt_iff.1 hb
        cases hc : ((decL y pos).1 : Int) == (32 : Int) with
        | true =>
          have e : wStp ((y, st, ()), out, (y, pos), ()) = (.normal, ((y, (pos : Int) + 1, ()), out ++ [(y.take pos).drop st.toNat], (y, decN y pos), ())) := by unfold wStp; simp only; rw [hb, hc]; rfl
          rw [e]
          refine ⟨rfl, ?_⟩
          have hr : (decL y pos).1 = 32 := by
            have : ((decL y pos).1 : Int) = 32 := by simpa using hc
            omega
          have hlow : byteAt y pos < 128 := by
            by_cases hlow : byteAt y pos < 128
            · exact hlow
            · have := (decL_high hlow).1
              omega
          rw [decL_low hlow] at hr
          have hg : y.getD pos 0 = 32 := by
            apply UInt8.toNat_inj.1
            exact hr
          simp only
          rw [decN_low hlt hlow]
          rw [drop_byte hlt, wordsGo, hg] at h2
          have e2 : ((pos : Int) + 1).toNat = pos + 1 := by omega
          rw [e2, List.append_assoc]
          have e3 : (y.take (pos + 1)).drop (pos + 1) = [] := by
            apply List.drop_eq_nil_of_le
            rw [List.length_take]; omega
          rw [e3]
          simpa using h2
        | false =>
          have e : wStp ((y, st, ()), out, (y, pos), ()) = (.normal, ((y, st, ()), out, (y, decN y pos), ())) := by unfold wStp; simp only; rw [hb, hc]; rfl
          rw [e]
          refine ⟨rfl, ?_⟩
          simp only
          have hle := decN_le p5
          have hN := decN_go hlt
          rw [← h2]
          congr 1
          rw [hN] at hle ⊢
          refine (words_skip _ pos (by omega) hle fun j h3 h4 => ?_).symm
          by_cases hlow : byteAt y pos < 128
          · rw [decL_low hlow] at hc h4
            have hj : j = pos := by simp only at h4; omega
            rw [hj]
            have : ¬ ((byteAt y pos : Nat) : Int) = 32 := by simpa using hc
            omega
          · have := ((decL_high hlow).2 j h3 h4).1
            omega
    · obtain ⟨⟨s', st, ⟨⟩⟩, out, ⟨y, pos⟩, ⟨⟩⟩ := x
      obtain ⟨p1, p2, p3, p4, p5, p6⟩ := hp
      simp only at h1 h2 p1 p2 p3 p4 p5 p6
      subst p1
      subst h1
      cases hb : Nat.blt pos y.length with
      | true =>
        exfalso
        apply hn
        unfold wStp
        simp only
        rw [hb]
        cases ((decL y pos).1 : Int) == (32 : Int) <;> rfl
      | false =>
        have hlt : ¬ pos < y.length := fun h => by rw [blt_iff.2 h] at hb; cases hb
        have e : wStp ((y, st, ()), out, (y, pos), ()) = (.exit 0, ((y, st, ()), out, (y, decN y pos), ())) := by unfold wStp; simp only; rw [hb]; rfl
        rw [e]
        have hpos : pos = y.length := by omega
        refine ⟨rfl, rfl, p3, by simp only; omega, by simp only; omega, ?_⟩
        rw [hpos, List.drop_length, List.take_length, wordsGo] at h2
        exact h2
theorem w_all {s : List UInt8} (h : s.length ≤ 1000) : wEnd s (runF wStp (wMu ((s, 0, ()), [], (s, 0), ()) + 1) ((s, 0, ()), [], (s, 0), ())) :=
  w_run _ _ ⟨⟨rfl, h, Int.le_refl _, Int.le_refl _, Nat.zero_le _, Nat.le_refl _⟩, rfl, rfl⟩ (by omega)
end Go.Ev
/- Configurations out of texts, line by line, in plain Lean. -/
set_option linter.unusedVariables false
set_option linter.unusedSimpArgs false
namespace Go.Ev
/-- A number's first letter is 0, and there are more. -/
def lzF (s : List UInt8) : Bool := bif ((s.getD 0 0).toNat : Int) == 48 then decide ((s.length : Int) > 1) else false
def numP (s : List UInt8) : Int := match numGo 1073741824 s 0 with
  | none => -1
  | some n => bif (bif s == [] then true else lzF s) then -1 else n
def nodeBad (s : List UInt8) : Bool := bif (nparseF s).2 != (0 : Int) then true else ((elemsF (nparseF s).1 16).length : Int) != (1 : Int)
def nodeP (s : List UInt8) : Int := lowestF (nparseF s).1
def wNode : List UInt8 := [110, 111, 100, 101]
def wRules : List UInt8 := [114, 117, 108, 101, 115]
def wLink : List UInt8 := [108, 105, 110, 107]
def isLine (w : List (List UInt8)) (k : List UInt8) (n : Int) : Bool := bif w.getD 0 [] == k then (w.length : Int) == n else false
def rulesP (w : List (List UInt8)) : DRules := (numP (w.getD 1 []), numP (w.getD 2 []), numP (w.getD 3 []), numP (w.getD 4 []))
def setP (c : DConf) (w : List (List UInt8)) : DCosts × Int := csetF c.2.2 (nodeP (w.getD 1 [])) (IntKind.wrap IntKind.u32 (numP (w.getD 2 [])))
def negP (n : Int) : Bool := decide (n < 0)
/-- Is a line none? -/
def lineBad (c : DConf) (w : List (List UInt8)) : Bool :=
  bif isLine w wNode 2 then nodeBad (w.getD 1 [])
  else bif isLine w wRules 5 then bif negP (rulesP w).1 then true else bif negP (rulesP w).2.1 then true else bif negP (rulesP w).2.2.1 then true else negP (rulesP w).2.2.2
  else bif isLine w wLink 3 then bif (bif nodeBad (w.getD 1 []) then true else negP (numP (w.getD 2 []))) then true else bif decide (numP (w.getD 2 []) > 65536) then true else (setP c w).2 != (0 : Int)
  else true
/-- What a line makes of it. -/
def lineN (c : DConf) (w : List (List UInt8)) : DConf :=
  bif isLine w wNode 2 then (nodeP (w.getD 1 []), c.2)
  else bif isLine w wRules 5 then (c.1, rulesP w, c.2.2)
  else (c.1, c.2.1, (setP c w).1)
abbrev zeroConf : DConf := (0, (0, 0, 0, 0), 0, List.replicate 16 0)
/-! A number, letter by letter -/
abbrev MnS := (List UInt8 × Int × Int × Int × Unit) × Unit
def mnB (x : MnS) : Int := ((x.1.1.getD x.1.2.2.2.1.toNat 0).toNat : Int)
def mnStp (v : Value) (x : MnS) : Ex × MnS :=
  bif decide (x.1.2.2.2.1 < x.1.2.2.1) then
    bif badD 1073741824 (mnB x) x.1.2.1 then (.die v, x)
    else (.normal, ((x.1.1, x.1.2.1 * 10 + (mnB x - 48), x.1.2.2.1, x.1.2.2.2.1 + 1, ()), ()))
  else (.exit 0, x)
def mnMu (x : MnS) : Nat := (x.1.2.2.1 - x.1.2.2.2.1).toNat
def mnPre (x : MnS) : Prop := 0 ≤ x.1.2.2.2.1 ∧ x.1.2.2.2.1 ≤ x.1.2.2.1 ∧ x.1.2.2.1 = (x.1.1.length : Int) ∧ x.1.2.2.1 ≤ 4611686018427387904 ∧ 0 ≤ x.1.2.1 ∧ x.1.2.1 ≤ 10737418249
theorem mnStp_ends (v : Value) (x : MnS) : (mnStp v x).1 = .normal ∨ (mnStp v x).1 = .exit 0 ∨ (mnStp v x).1 = .die v := by
  unfold mnStp
  cases decide (x.1.2.2.2.1 < x.1.2.2.1) with
  | false => exact .inr (.inl rfl)
  | true => cases badD 1073741824 (mnB x) x.1.2.1 with
    | true => exact .inr (.inr rfl)
    | false => exact .inl rfl
theorem mn_go {v : Value} {x : MnS} (hp : mnPre x) (h : (mnStp v x).1 = .normal) : mnPre (mnStp v x).2 ∧ mnMu (mnStp v x).2 < mnMu x := by
  obtain ⟨⟨s, n, len, i, ⟨⟩⟩, ⟨⟩⟩ := x
  obtain ⟨h1, h2, h3, h4, h5, h6⟩ := hp
  simp only at h1 h2 h3 h4 h5 h6
  unfold mnStp at h ⊢
  simp only at h ⊢
  by_cases hlt : i < len
  · rw [decide_eq_true hlt] at h ⊢
    cases hc : badD 1073741824 (mnB ((s, n, len, i, ()), ())) n with
    | true => rw [hc] at h; cases h
    | false =>
      have := badD_no hc
      generalize mnB ((s, n, len, i, ()), ()) = e at this ⊢
      refine ⟨⟨?_, ?_, h3, h4, ?_, ?_⟩, ?_⟩
      all_goals simp only [cond_true, cond_false, mnMu]
      all_goals omega
  · rw [decide_eq_false hlt] at h
    cases h
def mnEnd (v : Value) (o : Option Int) (p : Ex × MnS) : Prop := match o with
  | none => p.1 = .die v
  | some n => p.1 = .exit 0 ∧ p.2.1.2.1 = n
theorem drop_at {s : List UInt8} {i : Nat} (h : i < s.length) : s.drop i = s.getD i 0 :: s.drop (i + 1) := by
  rw [List.drop_eq_getElem_cons h]
  simp [List.getD, h]
theorem mn_run {v : Value} {o : Option Int} : ∀ (n : Nat) (x : MnS), (mnPre x ∧ numGo 1073741824 (x.1.1.drop x.1.2.2.2.1.toNat) x.1.2.1 = o) → mnMu x < n → mnEnd v o (runF (mnStp v) n x) :=
  runF_inv fun x hx => by
    obtain ⟨hp, ho⟩ := hx
    have hgo := mn_go (v := v) hp
    obtain ⟨⟨s, n, len, i, ⟨⟩⟩, ⟨⟩⟩ := x
    obtain ⟨h1, h2, h3, h4, h5, h6⟩ := hp
    simp only at h1 h2 h3 h4 h5 h6 ho
    by_cases hlt : i < len
    · have hn : i.toNat < s.length := by omega
      rw [drop_at hn, numGo, ← badD_eq] at ho
      have hb : mnB ((s, n, len, i, ()), ()) = ((s.getD i.toNat 0).toNat : Int) := rfl
      refine ⟨fun h => ⟨⟨(hgo h).1, ?_⟩, (hgo h).2⟩, fun h => ?_⟩
      · unfold mnStp at h ⊢
        simp only at h ⊢
        rw [decide_eq_true hlt] at h ⊢
        simp only [cond_true] at h ⊢
        rw [hb] at h ⊢
        cases hc : badD 1073741824 ((s.getD i.toNat 0).toNat : Int) n with
        | true => rw [hc] at h; cases h
        | false =>
          rw [hc] at ho
          simp only [cond_false] at ho ⊢
          rw [show (i + 1).toNat = i.toNat + 1 by omega]
          exact ho
      · unfold mnStp at h ⊢
        simp only at h ⊢
        rw [decide_eq_true hlt] at h ⊢
        simp only [cond_true] at h ⊢
        rw [hb] at h ⊢
        cases hc : badD 1073741824 ((s.getD i.toNat 0).toNat : Int) n with
        | false => rw [hc] at h; exact absurd rfl h
        | true =>
          rw [hc] at ho
          simp only [cond_true] at ho
          subst ho
          rfl
    · have hi : s.drop i.toNat = [] := List.drop_eq_nil_of_le (by omega)
      rw [hi, numGo] at ho
      subst ho
      refine ⟨fun h => ?_, fun _ => ?_⟩
      · unfold mnStp at h
        simp only at h
        rw [decide_eq_false hlt] at h
        cases h
      · unfold mnStp
        simp only
        rw [decide_eq_false hlt]
        exact ⟨rfl, rfl⟩
def mnSt (s : List UInt8) : MnS := ((s, 0, (s.length : Int), 0, ()), ())
theorem mn_all {v : Value} {s : List UInt8} (h : s.length ≤ 4611686018427387904) : mnPre (mnSt s) ∧ mnEnd v (numGo 1073741824 s 0) (runF (mnStp v) (mnMu (mnSt s) + 1) (mnSt s)) := by
  have hp : mnPre (mnSt s) := ⟨Int.le_refl _, by show (0 : Int) ≤ (s.length : Int); omega, rfl, by show (s.length : Int) ≤ _; omega, Int.le_refl _, by show (0 : Int) ≤ _; decide⟩
  exact ⟨hp, mn_run _ _ ⟨hp, rfl⟩ (Nat.lt_succ_self _)⟩
theorem num_pos {top : Int} : ∀ (s : List UInt8) (n : Int), 0 ≤ n → ∀ v, numGo top s n = some v → 0 ≤ v
  | [], n, h, v, hv => by simp only [numGo, Option.some.injEq] at hv; omega
  | b :: l, n, h, v, hv => by
    rw [numGo, ← badD_eq] at hv
    cases hc : badD top (b.toNat : Int) n with
    | true => rw [hc] at hv; cases hv
    | false =>
      rw [hc] at hv
      have := badD_no hc
      exact num_pos l _ (by omega) v hv
theorem with_low {s n : Int} (h0 : 0 ≤ s) (h1 : s < 65536) (h2 : 0 ≤ n) (h3 : n < 16) : 0 ≤ withF s n ∧ withF s n < 65536 := by
  obtain ⟨m, rfl⟩ : ∃ m : Nat, s = (m : Int) := ⟨s.toNat, by omega⟩
  obtain ⟨j, rfl⟩ : ∃ j : Nat, n = (j : Int) := ⟨n.toNat, by omega⟩
  have hm : m < 65536 := by omega
  have hj : j < 16 := by omega
  rw [with_nat hm hj]
  have h4 : 2 ^ j < 2 ^ 16 := Nat.pow_lt_pow_right (by omega) hj
  have h5 : m ||| 2 ^ j < 2 ^ 16 := Nat.or_lt_two_pow (by omega) h4
  omega
theorem npGo_low : ∀ (l : List UInt8) (s last : Int), 96 ≤ last → 0 ≤ s → s < 65536 → ∀ v, npGo l s last = some v → 0 ≤ v ∧ v < 65536
  | [], s, last, _, h0, h1, v, hv => by simp only [npGo, Option.some.injEq] at hv; omega
  | b :: l, s, last, hl, h0, h1, v, hv => by
    rw [npGo] at hv
    by_cases h2 : (b.toNat : Int) ≤ last
    · rw [decide_eq_true h2] at hv; cases hv
    · by_cases h3 : (b.toNat : Int) > 112
      · rw [decide_eq_false h2, decide_eq_true h3] at hv; cases hv
      · rw [decide_eq_false h2, decide_eq_false h3] at hv
        have h4 := with_low h0 h1 (n := (b.toNat : Int) - 97) (by omega) (by omega)
        exact npGo_low l _ _ (by omega) h4.1 h4.2 v hv
theorem np_low (s : List UInt8) : 0 ≤ (nparseF s).1 ∧ (nparseF s).1 < 65536 := by
  unfold nparseF
  cases s == [46] with
  | true => exact ⟨Int.le_refl _, by show (0 : Int) < _; decide⟩
  | false =>
    simp only [cond_false]
    cases h : npGo s 0 96 with
    | none => exact ⟨Int.le_refl _, by show (0 : Int) < _; decide⟩
    | some v =>
      have := npGo_low s 0 96 (by omega) (by omega) (by omega) v h
      simp only
      cases v == 0 with
      | true => exact ⟨Int.le_refl _, by show (0 : Int) < _; decide⟩
      | false => exact this
theorem numP_bad {s : List UInt8} (h : (bif s == [] then true else lzF s) = true) : numP s = -1 := by
  unfold numP
  cases numGo 1073741824 s 0 with
  | none => rfl
  | some n => simp only; rw [h]; rfl
theorem numP_none {s : List UInt8} (h : numGo 1073741824 s 0 = none) : numP s = -1 := by
  unfold numP
  rw [h]
theorem numP_some {s : List UInt8} {n : Int} (h : (bif s == [] then true else lzF s) = false) (hn : numGo 1073741824 s 0 = some n) : numP s = n ∧ 0 ≤ n := by
  refine ⟨?_, num_pos s 0 (Int.le_refl _) n hn⟩
  unfold numP
  rw [hn]
  simp only
  rw [h]
  rfl
theorem isLine_len {w : List (List UInt8)} {k : List UInt8} {n : Int} (h : isLine w k n = true) : (w.length : Int) = n := by
  unfold isLine at h
  cases hk : w.getD 0 [] == k with
  | false => rw [hk] at h; cases h
  | true => rw [hk] at h; simpa using h
theorem lb_node {c : DConf} {w : List (List UInt8)} (h : isLine w wNode 2 = true) : lineBad c w = nodeBad (w.getD 1 []) ∧ lineN c w = (nodeP (w.getD 1 []), c.2) := by
  unfold lineBad lineN
  rw [h]
  exact ⟨rfl, rfl⟩
theorem lb_rules {c : DConf} {w : List (List UInt8)} (h : isLine w wNode 2 = false) (h2 : isLine w wRules 5 = true) : lineBad c w = (bif negP (rulesP w).1 then true else bif negP (rulesP w).2.1 then true else bif negP (rulesP w).2.2.1 then true else negP (rulesP w).2.2.2) ∧ lineN c w = (c.1, rulesP w, c.2.2) := by
  unfold lineBad lineN
  rw [h, h2]
  exact ⟨rfl, rfl⟩
theorem lb_link {c : DConf} {w : List (List UInt8)} (h : isLine w wNode 2 = false) (h2 : isLine w wRules 5 = false) (h3 : isLine w wLink 3 = true) : lineBad c w = (bif (bif nodeBad (w.getD 1 []) then true else negP (numP (w.getD 2 []))) then true else bif decide (numP (w.getD 2 []) > 65536) then true else (setP c w).2 != (0 : Int)) ∧ lineN c w = (c.1, c.2.1, (setP c w).1) := by
  unfold lineBad lineN
  rw [h, h2, h3]
  exact ⟨rfl, rfl⟩
theorem lb_none {c : DConf} {w : List (List UInt8)} (h : isLine w wNode 2 = false) (h2 : isLine w wRules 5 = false) (h3 : isLine w wLink 3 = false) : lineBad c w = true := by
  unfold lineBad
  rw [h, h2, h3]
  rfl
theorem words_pos (s : List UInt8) : 0 < (wordsF s).length := by
  have : ∀ (s cur : List UInt8), 0 < (wordsGo s cur).length := by
    intro s
    induction s with
    | nil => intro cur; simp [wordsGo]
    | cons b l ih =>
      intro cur
      rw [wordsGo]
      cases b == 32 with
      | true => simp
      | false => exact ih _
  exact this s []
end Go.Ev
/- Loops in which a round may panic. -/
set_option linter.unusedVariables false
namespace Go.Ev
def isDieX : Ex → Bool
  | .die _ => true
  | _ => false
/-- A loop that ends, or panics with v. -/
def outD {σ : Type} (v : Value) (id : Nat) (p : Ex × σ) : Tree (Ex × σ) := .br (isDieX p.1) (.leaf (.die v, p.2)) (.leaf (.exit id, p.2))
section
variable {C : Ctx} {body : Code} {D : LoopD}
theorem loopFD_ok {T : ShT D.ts × ShB D.bs → Tree (Ex × Option (ShT D.ts × ShB D.bs))} (hstep : ∀ x, roundOf C D body x = T x) {v : Value} {id : Nat} (stp : ShT D.ts × ShB D.bs → Ex × (ShT D.ts × ShB D.bs)) (μ : ShT D.ts × ShB D.bs → Nat) (hD : ∀ x, D.out x = outD v id (runF stp (μ x + 1) x))
    (he : ∀ x, (stp x).1 = .normal ∨ (stp x).1 = .exit id ∨ (stp x).1 = .die v) (h : ∀ x, D.pre x → ((T x).holds fun p => p = ((stp x).1, some (stp x).2)) ∧ ((stp x).1 = .normal → D.pre (stp x).2 ∧ μ (stp x).2 < μ x)) : LoopOK C D.spec body :=
  loopF_ok hstep stp μ (outD v id) hD (fun x _ hn G hG => by
    rcases (he x).resolve_left hn with h1 | h1
    · have e : stp x = (.exit id, (stp x).2) := Prod.ext h1 rfl
      rw [e] at hG ⊢
      exact hG.2 rfl
    · have e : stp x = (.die v, (stp x).2) := Prod.ext h1 rfl
      rw [e] at hG ⊢
      exact hG.1 rfl) h
end
end Go.Ev
/- A text split at blanks, as the library tells it, and as we do. -/
set_option linter.unusedVariables false
set_option linter.unusedSimpArgs false
namespace Go.Ev
theorem split_ne (k : Nat) (s : List UInt8) : ∃ w ws, Lib.splitK [32] 0 k s = w :: ws := by
  cases k with
  | zero => exact ⟨s, [], rfl⟩
  | succ k =>
    unfold Lib.splitK
    split
    · exact ⟨_, _, rfl⟩
    · exact ⟨_, _, rfl⟩
theorem index_cons_ne {b : UInt8} {l : List UInt8} (h : b ≠ 32) : Lib.index (b :: l) [32] = if Lib.index l [32] == -1 then -1 else Lib.index l [32] + 1 := by
  have hp : ([32] : List UInt8).isPrefixOf (b :: l) = false := by simp [List.isPrefixOf, Ne.symm h]
  rw [Lib.index, hp]
  simp
theorem split_cons_ne {b : UInt8} {l : List UInt8} (h : b ≠ 32) (k : Nat) {w : List UInt8} {ws : List (List UInt8)} (hl : Lib.splitK [32] 0 k l = w :: ws) : Lib.splitK [32] 0 k (b :: l) = (b :: w) :: ws := by
  cases k with
  | zero =>
    simp only [Lib.splitK, List.cons.injEq] at hl ⊢
    exact ⟨⟨trivial, hl.1⟩, hl.2⟩
  | succ k =>
    unfold Lib.splitK at hl ⊢
    rw [index_cons_ne h]
    have hge := Lib.index_ge l [32]
    by_cases hm : Lib.index l [32] = -1
    · rw [hm] at hl ⊢
      simp only [beq_self_eq_true, if_true, List.cons.injEq] at hl ⊢
      exact ⟨⟨trivial, hl.1⟩, hl.2⟩
    · have h1 : (Lib.index l [32] == -1) = false := by simpa using hm
      have h2 : (Lib.index l [32] + 1 == -1) = false := by
        have : Lib.index l [32] + 1 ≠ -1 := by omega
        simpa using this
      rw [h1] at hl ⊢
      simp only [Bool.false_eq_true, if_false] at hl ⊢
      rw [h2]
      simp only [Bool.false_eq_true, if_false]
      have e : (Lib.index l [32] + 1).toNat = (Lib.index l [32]).toNat + 1 := by omega
      rw [e, show (Lib.index l [32]).toNat + 1 + 0 = ((Lib.index l [32]).toNat + 0) + 1 by omega, List.take_succ_cons,
        show (Lib.index l [32]).toNat + 1 + List.length [(32 : UInt8)] = ((Lib.index l [32]).toNat + List.length [(32 : UInt8)]) + 1 by omega, List.drop_succ_cons]
      simp only [List.cons.injEq] at hl ⊢
      exact ⟨⟨trivial, hl.1⟩, hl.2⟩
theorem split_words : ∀ (s cur : List UInt8), ∀ w ws, Lib.splitK [32] 0 (Lib.count s [32]) s = w :: ws → wordsGo s cur = (cur ++ w) :: ws
  | [], cur, w, ws, h => by
    have e : Lib.count ([] : List UInt8) [32] = 0 := by decide
    rw [e] at h
    simp only [Lib.splitK, List.cons.injEq] at h
    rw [← h.1, ← h.2, List.append_nil]
    rfl
  | b :: l, cur, w, ws, h => by
    obtain ⟨w', ws', hl⟩ := split_ne (Lib.count l [32]) l
    by_cases hb : b = 32
    · subst hb
      rw [Lib.count_cons_eq, show 1 + Lib.count l [32] = Lib.count l [32] + 1 by omega] at h
      have h0 : Lib.index ((32 : UInt8) :: l) [32] = 0 := by rw [Lib.index]; simp [List.isPrefixOf]
      unfold Lib.splitK at h
      rw [h0] at h
      have h1 : ((0 : Int) == -1) = false := by decide
      rw [h1] at h
      simp only [Bool.false_eq_true, if_false] at h
      have h2 : Lib.splitK [32] 0 (Lib.count l [32]) l = w' :: ws' := hl
      have ih := split_words l [] w' ws' h2
      have h3 : (([] : List UInt8) :: Lib.splitK [32] 0 (Lib.count l [32]) l) = w :: ws := h
      simp only [List.cons.injEq] at h3
      rw [wordsGo]
      show cur :: wordsGo l [] = _
      rw [ih, ← h3.1, ← h3.2, hl, List.append_nil]
      rfl
    · rw [Lib.count_cons_ne b 32 l hb, split_cons_ne hb _ hl] at h
      simp only [List.cons.injEq] at h
      have hb' : (b == 32) = false := by simpa using hb
      rw [wordsGo, hb']
      show wordsGo l (cur ++ [b]) = _
      rw [split_words l (cur ++ [b]) w' ws' hl, ← h.1, ← h.2, List.append_assoc]
      rfl
/-- The library's words are ours. -/
theorem splitB_words (s : List UInt8) : (Lib.splitB ⟨⟨[32]⟩⟩ 0 (Lib.countB ⟨⟨s⟩⟩ ⟨⟨[32]⟩⟩) ⟨⟨s⟩⟩).map (·.data.toList) = wordsF s := by
  rw [Lib.splitB_data]
  obtain ⟨w, ws, h⟩ := split_ne (Lib.count s [32]) s
  show Lib.splitK [32] 0 (Lib.count s [32]) s = _
  rw [h]
  exact (split_words s [] w ws h).symm
theorem words_lens : ∀ (s cur : List UInt8), (wordsGo s cur).length ≤ s.length + 1 ∧ ∀ w ∈ wordsGo s cur, w.length ≤ s.length + cur.length
  | [], cur => by simp [wordsGo]
  | b :: l, cur => by
    rw [wordsGo]
    cases b == 32 with
    | true =>
      obtain ⟨h1, h2⟩ := words_lens l []
      simp only [cond_true, List.length_cons, List.mem_cons]
      refine ⟨by omega, fun w hw => ?_⟩
      rcases hw with rfl | hw
      · omega
      · have := h2 w hw
        simp only [List.length_nil] at this
        omega
    | false =>
      obtain ⟨h1, h2⟩ := words_lens l (cur ++ [b])
      simp only [cond_false, List.length_cons]
      refine ⟨by omega, fun w hw => ?_⟩
      have := h2 w hw
      simp only [List.length_append, List.length_cons, List.length_nil] at this
      omega
end Go.Ev
/- Functions that defer a closure which recovers. -/
set_option linter.unusedVariables false
set_option linter.unusedSimpArgs false
namespace Go.Ev
open Go.Conc
/-- Operations that make no box anew, one after the other. -/
def runOpsC (C : Ctx) : List Oper → St → Tree St
  | [], s => .leaf s
  | o :: l, s => match opEff C.τ C.Γ (o.dst.getD 0) o (s.args o) with
    | none => .stuck
    | some e => match e.wr.all (fun x => !x.2.1) with
      | true => .needO e.need (runOpsC C l (s.after o e))
      | false => .stuck
section
variable {P : Program} {C : Ctx} {R : Ref}
/-- The same memory, seen through. -/
theorem runOpsC_wp (TOK : TysOK P C.τ) (GOK : CtrsOK P C.Γ) {ops : Array Oper} {Q : Exit → Act → World → Prop} {M0 : Mem} : ∀ (l : List Oper) (k : Nat) (s : St) (a : Act) (M : Mem) (F : St → Prop), (∀ i o, l[i]? = some o → ops[k + i]? = some o) →
    (∀ o ∈ l, o.guard = none ∧ ∀ d, o.dst = some d → d < a.tmps.size) → M.bs = s.boxes → InvM R M → (∀ t, RelV M (s.look t) (a.tmps.getD t undef)) → Step M0 M (fun _ => False) → (runOpsC C l s).holds F →
    (∀ s' a' M', F s' → M'.bs = s'.boxes → InvM R M' → (∀ t, RelV M' (s'.look t) (a'.tmps.getD t undef)) → Step M0 M' (fun _ => False) → a'.defers = a.defers → Q .normal a' M'.w) → wpOps P ops Q (List.range' k l.length) a M.w
  | [], k, s, a, M, F, _, _, hb, I, hr, hst, hF, hQ => by
    simp only [List.length_nil, List.range'_zero, wpOps]
    exact hQ s a M hF hb I hr hst rfl
  | o :: l, k, s, a, M, F, hops, hl, hb, I, hr, hst, hF, hQ => by
    have ho : ops[k]? = some o := by simpa using hops 0 o (by simp)
    simp only [List.length_cons, List.range'_succ, wpOps, ho]
    obtain ⟨hg, hd⟩ := hl o (by simp)
    rw [if_pos (by simp [Region.wanted, hg])]
    refine .inl ?_
    simp only [runOpsC] at hF
    split at hF
    · exact hF.elim
    · rename_i e he
      split at hF
      · rename_i hall
        obtain ⟨hn, hF⟩ := holds_needO.1 hF
        rw [args_eq s o hb] at he
        have hy := opEff_sound TOK GOK I (eval_func a) (opRel_of (R.tab.keeps I.old) hr o) he hn
        refine hy.wp (fun v w' hv => ?_)
        have hv' := hv
        obtain ⟨S', β', I', st, hrv⟩ := hv
        have hk : ∀ b, ¬ killed e.wr b := fun b hkb => by
          obtain ⟨B, hB⟩ := hkb
          rw [List.all_eq_true] at hall
          have := hall _ hB
          simp at this
        have hst' := (hst.trans st).mono (K' := fun _ => False) (fun b hb => hb.elim id (hk b))
        refine runOpsC_wp TOK GOK l (k + 1) (s.after o e) (a.put o.dst v) ⟨w', S', β', applyB e.wr M.bs⟩ F (fun i o' hi => by have := hops (i + 1) o' (by simpa using hi); rwa [show k + 1 + i = k + (i + 1) by omega]) (fun o' ho' => ⟨(hl o' (by simp [ho'])).1, fun d hd' => by rw [put_size]; exact (hl o' (by simp [ho'])).2 d hd'⟩)
          (by rw [boxes_after, ← hb]) I' (fun t => ?_) hst' hF (fun s' a' M' f1 f2 f3 f4 f5 f6 => hQ s' a' M' f1 f2 f3 f4 f5 (f6.trans (put_defers' _ _ _)))
        rw [look_after, put_getD a o.dst v t hd]
        split
        · exact hrv
        · rcases wrs_look e.wr s t with h1 | ⟨h1, h2⟩
          · rw [h1]; simp [RelV]
          · rw [h1]
            exact (hr t).step st (fun b hkb => absurd hkb (hk b))
      · exact hF.elim
/-- A closure is deferred. -/
theorem defer_wp {o : Oper} {x : Operand} {f : Nat} {caps : Array Value} {a : Act} {w : World} {next : Act → World → Prop} {Q : Exit → Act → World → Prop} (hop : o.op = .defer { callee := .value x, args := #[], argTypes := #[] }) (hx : a.eval x = .func (.func f) #[] caps)
    (h : next ({ a with defers := { target := .fn (.func f) caps, args := #[] } :: a.defers }.put o.dst undef) w) : o.wp P a w next Q := by
  unfold Oper.wp
  have hrun : (execOp a.eval o).run P w = .ok (.defer { target := .fn (.func f) caps, args := #[] }) w := by
    simp only [execOp, hop, resolve, hx, Deferred.ofValue, Sem.run_bind]
    simp
  rw [hrun]
  exact h
/-- A piece that ends in whatever way, and what stands in the slots of a shape then. -/
def endT (C : Ctx) (ts : List (Nat × Sh)) (bs : List (Nat × BSh)) (l : List Code) (s : St) : Tree (Ex × Option (ShT ts × ShB bs)) :=
  (evL C l s).bind fun p => match restrict { prom := [], keep := ts.map (·.1), boxes := bs.map (·.1), sum := fun _ => .stuck } p.2 with
    | none => .stuck
    | some s' => .leaf (p.1, unS ts bs s')
theorem end_to {b : Frame} {Q : Exit → Act → World → Prop} {a : Act} {w : World} (TOK : TysOK P C.τ) (GC : CtrsOK P C.Γ) (hmix : P.follows .mixedOrders = true) (DK : DsOK P C) {ts : List (Nat × Sh)} {bs : List (Nat × BSh)} {rest l : List Code} {s : St} {G : Ex × Option (ShT ts × ShB bs) → Prop} (hl : ∀ c ∈ l, LamOK C c) (hsz : ∀ c ∈ l, ∀ t ∈ writes c, t < a.tmps.size) (hs : IsSt R s a w) (hG : (endT C ts bs l s).holds G)
    (hend : ∀ z x a' w', G (z, some x) → IsSt R (mkS ts bs x) a' w' → a'.tmps.size = a.tmps.size → a'.defers = a.defers → (∀ t, (∀ c ∈ l, t ∉ writes c) → a'.tmps.getD t undef = a.tmps.getD t undef) → match z with
      | .normal => LTo P b rest Q a' w'
      | z => Q z.to a' w') (hbad : ∀ z, ¬ G (z, none)) : LTo P b (l ++ rest) Q a w := by
  refine evL_toD TOK GC hmix DK l s a w hl hsz hs (holds_bind.1 hG) ?_
  intro z s' a' w' hF h1 h2 h3 h4
  simp only at hF
  split at hF
  · exact hF.elim
  · rename_i s'' hr
    have h5 := h1.restr (restrict_spec hr)
    simp only [Tree.holds] at hF
    cases hu : unS ts bs s'' with
    | none => rw [hu] at hF; exact absurd hF (hbad z)
    | some x =>
      rw [hu] at hF
      have := unS_eq hu
      subst this
      exact hend z x a' w' hF h5 h2 h3 h4
/-- A function that defers. -/
theorem calls_of_to_defers {f : FuncId} {fn : Func} {c : Code} {args : Array Value} {w : World} {R : Ending → World → Prop} (hf : P.funcs[f]? = some fn) (hb : fn.body = some c)
    (h : CodeTo P { (default : Frame) with fn := f, kind := .normal } c (bodyPostD P fn R) { tmps := args ++ Array.replicate (fn.ntmps - args.size) undef, defers := [] } w) : Calls P f args w R := by
  intro cs
  let b : Frame := { (default : Frame) with fn := f, kind := .normal }
  have henter : Frame.enter P f args .normal = b.at { tmps := args ++ Array.replicate (fn.ntmps - args.size) undef, defers := [] } [.code c] := by
    simp [Frame.enter, Frame.at, hf, hb, b]
  obtain ⟨e, a', w', hq, harr⟩ := h [] cs
  rw [← henter] at harr
  cases e with
  | normal =>
    obtain ⟨e', w'', fr', hR, hs, hfn, hl⟩ := leaves_steps a'.defers .returning w' { b.at a' [] with mode := .returning } cs rfl rfl rfl hf rfl hq
    exact ⟨e', w'', fr', hR, Comes.of_steps (Steps.trans harr (.one step_end)) hs, hfn, hl⟩
  | ret =>
    obtain ⟨todo, hs₀⟩ := harr
    obtain ⟨e', w'', fr', hR, hs, hfn, hl⟩ := leaves_steps a'.defers .returning w' { b.at a' todo with mode := .returning } cs rfl rfl rfl hf rfl hq
    exact ⟨e', w'', fr', hR, Comes.of_steps hs₀ hs, hfn, hl⟩
  | panic chain =>
    obtain ⟨todo, hs₀⟩ := harr
    obtain ⟨e', w'', fr', hR, hs, hfn, hl⟩ := leaves_steps a'.defers (.panicking chain) w' { b.at a' todo with mode := .panicking chain } cs rfl rfl rfl hf rfl hq
    exact ⟨e', w'', fr', hR, Comes.of_steps hs₀ hs, hfn, hl⟩
  | exit id => exact hq.elim
  | goto l => exact hq.elim
  | outgrown => exact ⟨.outgrown, w', b, hq, harr.resolve_left (by simp [b]), rfl, trivial⟩
/-- A function that defers keeps its contract. -/
theorem ctr_of_toD (TOK : TysOK P C.τ) {f : Nat} {k : Ctr} (hf : (P.funcs[f]?).isSome = true) (hname : ((fnOf P f).name == "runtime.NumGoroutine") = false) (hbody : (fnOf P f).body.isSome = true) (hn : ∀ x, (resL k.args x).length ≤ (fnOf P f).ntmps)
    (h : ∀ (R0 : Ref) (b : Frame) (x : dens k.args) (a : Act) (Rp : Ending → World → Prop), (∀ s' a' w', IsSt R0 s' a' w' → (evRes C (fnOf P f) k.res (.normal, s')).holds (fun z => z = k.fn x) → Leaves P (fnOf P f) a'.tmps Rp [] .returning w') → wtD k.args x → (∀ p, k.pre = some p → p x) →
      IsSt R0 { tmps := number 0 (resL k.args x), boxes := [] } a R0.w0 → a.tmps.size = (fnOf P f).ntmps → a.defers = [] → LTo P b (seqs (bodyOf (fnOf P f))) (bodyPostD P (fnOf P f) Rp) a R0.w0) : CtrOK P f k := by
  refine ⟨⟨_, fnOf_eq hf, by rw [bodyOf_eq hbody]; rfl, hname⟩, fun w S us x hS hT henc hpre => ?_⟩
  have h0 := start_st (n := (fnOf P f).ntmps) hS hT henc
  have hlen := (resL_rel (M := ⟨w, S, fun _ => undef, []⟩) henc).length
  have hx := hn x
  refine calls_of_to_defers (fnOf_eq hf) (bodyOf_eq hbody) ?_
  refine CodeTo.seqs (h ⟨w, fun _ => False, S, hT⟩ _ x _ _ (fun s' a' w' h1 h2 => ?_) henc.wt hpre h0 (by simp; omega) rfl)
  exact finish_st TOK h1 h2
/-! recover -/
section
variable {ops : Array Oper} {Q : Exit → Act → List Frame → World → Prop} {i : Nat} {rest : List Nat} {a : Act} {cs cs' : List Frame} {w w' : World} {o : Oper} {v : Value}
theorem opsS_recover (ho : ops[i]? = some o) (hg : o.guard = none) (hop : o.op = .call { callee := .builtin .recover, args := #[], argTypes := #[] }) (hrec : recoverD cs = some (v, cs')) (h : wpOpsS P ops Q rest (a.put o.dst v) cs' w) : wpOpsS P ops Q (i :: rest) a cs w := by
  have hrun : (execOp a.eval o).run P w = .ok .recover w := by
    unfold execOp
    rw [hop]
    rfl
  simp only [wpOpsS, ho]
  rw [if_pos (by simp [Region.wanted, hg])]
  rw [hrun]
  simp only [hrec]
  exact h
theorem opsS_idle (ho : ops[i]? = some o) (hg : o.guard = none) (hop : o.op = .call { callee := .builtin .recover, args := #[], argTypes := #[] }) (hrec : recoverD cs = none) (h : wpOpsS P ops Q rest (a.put o.dst .nilIface) cs w) : wpOpsS P ops Q (i :: rest) a cs w := by
  have hrun : (execOp a.eval o).run P w = .ok .recover w := by
    unfold execOp
    rw [hop]
    rfl
  simp only [wpOpsS, ho]
  rw [if_pos (by simp [Region.wanted, hg])]
  rw [hrun]
  simp only [hrec]
  exact h
theorem opsS_value (ho : ops[i]? = some o) (hg : o.guard = none) (hrun : (execOp a.eval o).run P w = .ok (.value v) w') (h : wpOpsS P ops Q rest (a.put o.dst v) cs w') : wpOpsS P ops Q (i :: rest) a cs w := by
  simp only [wpOpsS, ho]
  rw [if_pos (by simp [Region.wanted, hg])]
  rw [hrun]
  exact h
theorem run_neq_some {t ty' : TypeId} {ms : Array (String × TypeId)} {x : Operand} {ty : TypeId} {u : Value} {ρ : Operand → Value} (hu : P.underlying t = some (.interface ms)) (hop : o.op = .binOp .neq t x (.const .nilIface) ty') (hx : ρ x = .iface ty u) (hc : ρ (.const .nilIface) = .nilIface) :
    (execOp ρ o).run P w = .ok (.value (.bool true)) w := by
  have e1 : (eqGuard .neq t x (.const .nilIface) (.iface ty u) .nilIface).run P w = .ok () w := by
    unfold eqGuard
    simp
  have e2 := equal_err_nil hu ty u w
  simp only [execOp, hop, hx, hc]
  refine maybe_run ?_
  show ((do eqGuard .neq t x (.const .nilIface) (.iface ty u) .nilIface; pure (.bool (!(← Op.equal t (.iface ty u) .nilIface)))) : Sem Value).run P w = _
  simp [e1, e2]
theorem run_neq_none {t ty' : TypeId} {ms : Array (String × TypeId)} {x : Operand} {ρ : Operand → Value} (hu : P.underlying t = some (.interface ms)) (hop : o.op = .binOp .neq t x (.const .nilIface) ty') (hx : ρ x = .nilIface) (hc : ρ (.const .nilIface) = .nilIface) :
    (execOp ρ o).run P w = .ok (.value (.bool false)) w := by
  have e1 : (eqGuard .neq t x (.const .nilIface) .nilIface .nilIface).run P w = .ok () w := by
    unfold eqGuard
    simp
  have e2 := equal_nil_nil hu w
  simp only [execOp, hop, hx, hc]
  refine maybe_run ?_
  show ((do eqGuard .neq t x (.const .nilIface) .nilIface .nilIface; pure (.bool (!(← Op.equal t .nilIface .nilIface)))) : Sem Value).run P w = _
  simp [e1, e2]
end
end
theorem farO_all {n : Nat} {ds : List Nat} {l : List Oper} (h : farO n ds l = true) : ∀ o ∈ l, o.guard = none ∧ ∀ d, o.dst = some d → d < n := fun o ho => by
  unfold farO at h
  rw [List.all_eq_true] at h
  have h1 := h o ho
  rw [Bool.and_eq_true] at h1
  refine ⟨by simpa using h1.1, fun d hd => ?_⟩
  have h2 := h1.2
  rw [hd] at h2
  simp only [Bool.and_eq_true, Nat.blt_eq] at h2
  exact h2.1
theorem ptr_same {M : Mem} {b : Nat} {g : GTy} {p : List PStep} {u v : Value} (h : RelV M (.ptr b g p) u) (k : RelV M (.ptr b g p) v) : u = v := by
  simp only [RelV] at h k
  obtain ⟨blk, d, B, _, _, h3, h4⟩ := h
  obtain ⟨blk', d', B', _, _, k3, k4⟩ := k
  rw [h3] at k3
  have := Option.some.inj k3
  subst this
  rw [h4, k4]
theorem invoke_fn {P : Program} {f : Nat} {fn : Func} {caps : Array Value} (hf : P.funcs[f]? = some fn) (hb : fn.body.isNone = false) (hn : (fn.name == "runtime.NumGoroutine") = false) (w : World) : (invoke (.fn (.func f) caps) #[]).run P w = .ok (.enter f caps) w := by
  have h2' : ¬ fn.body = none := by intro hh; rw [hh] at hb; simp at hb
  have h3' : ¬ fn.name = "runtime.NumGoroutine" := by simpa using hn
  simp [invoke, callFunc, hf, h2', h3']
end Go.Ev
/- Trees read: the steps. -/
set_option linter.unusedVariables false
set_option linter.unusedSimpArgs false
namespace Go.Ev
def letB (c : Int) : Int := bif (bif decide (c < 97) then true else decide (c > 112)) then -1 else c - 97
/-- What a numeral says; is it none? -/
def puF (s : List UInt8) : Int × Bool := match Lib.parseUintB 32 s with
  | .ok u => ((u : Int), false)
  | .range => (4294967295, true)
  | _ => (0, true)
def puPre (x : List UInt8 × Int × Int) : Prop := x.1.length ≤ 1000 ∧ x.2.1 = 10 ∧ x.2.2 = 32
theorem puF_in (s : List UInt8) : 0 ≤ (puF s).1 ∧ (puF s).1 ≤ 4294967295 := by
  unfold puF
  cases h : Lib.parseUintB 32 s with
  | ok u =>
    have : u ≤ 4294967295 := Lib.parseUintB_le h
    exact ⟨by simp only; omega, by simp only; omega⟩
  | range => exact ⟨by decide, by decide⟩
  | _ => exact ⟨by decide, by decide⟩
theorem letB_in (c : Int) : letB c = -1 ∨ 0 ≤ letB c ∧ letB c < 16 := by
  unfold letB
  by_cases h1 : c < 97
  · rw [decide_eq_true h1]; exact .inl rfl
  · by_cases h2 : c > 112
    · rw [decide_eq_false h1, decide_eq_true h2]; exact .inl rfl
    · rw [decide_eq_false h1, decide_eq_false h2]
      right
      show 0 ≤ c - 97 ∧ c - 97 < 16
      omega
theorem letB_wrap {c : Int} (h0 : 0 ≤ c) (h1 : c ≤ 255) (h : (bif decide (c < 97) then true else decide (c > 112)) = false) : IntKind.wrap IntKind.i64 (IntKind.wrap IntKind.u8 (c - 97)) = c - 97 := by
  by_cases h2 : c < 97
  · rw [decide_eq_true h2] at h; cases h
  · rw [show IntKind.wrap IntKind.u8 (c - 97) = c - 97 from u8_id (by omega) (by omega)]
    exact i64_id (by omega) (by omega)
/-- The end of the digits. -/
abbrev EnS := (List UInt8 × Int × Unit) × Unit
def isDg (c : Int) : Bool := bif decide (c ≥ 48) then decide (c ≤ 57) else false
def dgLen : List UInt8 → Nat
  | [] => 0
  | b :: l => bif isDg (b.toNat : Int) then dgLen l + 1 else 0
def enStp : EnS → Ex × EnS
  | ((s, i, _), _) => bif (bif decide (i < (s.length : Int)) then isDg ((byteAt s i.toNat : Nat) : Int) else false) then (.normal, ((s, i + 1, ()), ())) else (.exit 0, ((s, i, ()), ()))
def enMu (x : EnS) : Nat := x.1.1.length - x.1.2.1.toNat
def enPre (x : EnS) : Prop := 0 ≤ x.1.2.1 ∧ x.1.2.1 ≤ x.1.1.length ∧ x.1.1.length ≤ 1000
theorem enStp_ends (x : EnS) : (enStp x).1 = .normal ∨ (enStp x).1 = .exit 0 := by
  obtain ⟨⟨s, i, ⟨⟩⟩, ⟨⟩⟩ := x
  unfold enStp
  simp only
  cases (bif decide (i < (s.length : Int)) then isDg ((byteAt s i.toNat : Nat) : Int) else false) <;> simp
theorem en_go {x : EnS} (hp : enPre x) (h : (enStp x).1 = .normal) : enPre (enStp x).2 ∧ enMu (enStp x).2 < enMu x := by
  obtain ⟨⟨s, i, ⟨⟩⟩, ⟨⟩⟩ := x
  obtain ⟨h1, h2, h3⟩ := hp
  simp only at h1 h2 h3
  unfold enStp at h ⊢
  simp only at h ⊢
  cases hc : (bif decide (i < (s.length : Int)) then isDg ((byteAt s i.toNat : Nat) : Int) else false) with
  | false => rw [hc] at h; cases h
  | true =>
    have hlt : i < (s.length : Int) := by
      by_cases hlt : i < (s.length : Int)
      · exact hlt
      · rw [decide_eq_false hlt] at hc; cases hc
    refine ⟨⟨?_, ?_, h3⟩, ?_⟩
    · show 0 ≤ i + 1; omega
    · show i + 1 ≤ (s.length : Int); omega
    · show s.length - (i + 1).toNat < s.length - i.toNat; omega
theorem dgLen_le : ∀ l : List UInt8, dgLen l ≤ l.length
  | [] => Nat.le_refl _
  | b :: l => by
    unfold dgLen
    cases isDg (b.toNat : Int) with
    | true => have := dgLen_le l; simp only [cond_true, List.length_cons]; omega
    | false => simp
theorem en_run {s : List UInt8} : ∀ (n i : Nat), i ≤ s.length → s.length - i < n → runF enStp n ((s, (i : Int), ()), ()) = (.exit 0, ((s, ((i + dgLen (s.drop i) : Nat) : Int), ()), ()))
  | 0, _, _, h => by omega
  | n + 1, i, h1, h2 => by
    by_cases hlt : i < s.length
    · have hd := drop_byte hlt
      cases hg : isDg ((byteAt s i : Nat) : Int) with
      | true =>
        have e : enStp ((s, (i : Int), ()), ()) = (.normal, ((s, ((i + 1 : Nat) : Int), ()), ())) := by
          unfold enStp
          simp only
          rw [decide_eq_true (show (i : Int) < (s.length : Int) by omega), Int.toNat_natCast, hg]
          rfl
        rw [runF_go e, en_run n (i + 1) (by omega) (by omega), hd]
        have hg' : isDg (((s.getD i 0).toNat : Nat) : Int) = true := hg
        rw [dgLen, hg']
        simp only [cond_true]
        rw [show i + 1 + dgLen (s.drop (i + 1)) = i + (dgLen (s.drop (i + 1)) + 1) by omega]
      | false =>
        have e : enStp ((s, (i : Int), ()), ()) = (.exit 0, ((s, (i : Int), ()), ())) := by
          unfold enStp
          simp only
          rw [decide_eq_true (show (i : Int) < (s.length : Int) by omega), Int.toNat_natCast, hg]
          rfl
        rw [runF_end (by rw [e]; intro h; cases h), e, hd]
        have hg' : isDg (((s.getD i 0).toNat : Nat) : Int) = false := hg
        rw [dgLen, hg']
        rfl
    · have e : enStp ((s, (i : Int), ()), ()) = (.exit 0, ((s, (i : Int), ()), ())) := by
        unfold enStp
        simp only
        rw [decide_eq_false (show ¬ (i : Int) < (s.length : Int) by omega)]
        rfl
      rw [runF_end (by rw [e]; intro h; cases h), e, List.drop_eq_nil_of_le (by omega)]
      rfl
def endN (s : List UInt8) : Nat := 1 + dgLen (s.drop 1)
theorem en_all {s : List UInt8} (h : 1 ≤ s.length) : runF enStp (enMu ((s, 1, ()), ()) + 1) ((s, 1, ()), ()) = (.exit 0, ((s, (endN s : Int), ()), ())) := by
  have := en_run (s := s) (enMu ((s, 1, ()), ()) + 1) 1 h (by unfold enMu; simp only; omega)
  exact this
theorem endN_in {s : List UInt8} (h : 1 ≤ s.length) : 1 ≤ endN s ∧ endN s ≤ s.length := by
  unfold endN
  have := dgLen_le (s.drop 1)
  rw [List.length_drop] at this
  omega
/-- A destination, its entry, what follows; is it one? -/
def entBad (s : List UInt8) : Bool := bif (bif (bif decide (letB (byteAt s 0 : Nat) < 0) then true else (puF ((s.take (endN s)).drop 1)).2) then true else decide ((s.length : Int) < (endN s : Int) + 2)) then true else (byteAt s (endN s + 1) : Int) != (32 : Int)
def entBad2 (s : List UInt8) : Bool := bif decide (letB (byteAt s (endN s) : Nat) < 0) then (byteAt s (endN s) : Int) != (46 : Int) else false
def entF (s : List UInt8) : Int × DEnt × List UInt8 × Bool :=
  bif entBad s then (0, (0, 0), [], false) else bif entBad2 s then (0, (0, 0), [], false)
  else (letB (byteAt s 0 : Nat), ((puF ((s.take (endN s)).drop 1)).1, letB (byteAt s (endN s) : Nat)), s.drop (endN s + 2), true)
def goodE (e : DEnt) : Prop := (e.2 = -1 ∨ 0 ≤ e.2 ∧ e.2 < 16) ∧ 0 ≤ e.1 ∧ e.1 ≤ 4294967295
def goodT (t : List DEnt) : Prop := t.length = 16 ∧ ∀ j, j < 16 → goodE (entAt t j)
theorem ent_good {s : List UInt8} (h : (entF s).2.2.2 = true) : 0 ≤ (entF s).1 ∧ (entF s).1 < 16 ∧ goodE (entF s).2.1 ∧ (entF s).2.2.1.length < s.length := by
  unfold entF at h ⊢
  cases h1 : entBad s with
  | true => rw [h1] at h; cases h
  | false =>
    rw [h1] at h
    simp only [cond_false] at h ⊢
    cases h2 : entBad2 s with
    | true => rw [h2] at h; cases h
    | false =>
      simp only [cond_false]
      unfold entBad at h1
      have hl : ¬ letB (byteAt s 0 : Nat) < 0 := fun hl => by rw [decide_eq_true hl] at h1; cases h1
      rw [decide_eq_false hl] at h1
      simp only [cond_false] at h1
      cases hp : (puF ((s.take (endN s)).drop 1)).2 with
      | true => rw [hp] at h1; cases h1
      | false =>
        rw [hp] at h1
        simp only [cond_false] at h1
        have hlen : ¬ (s.length : Int) < (endN s : Int) + 2 := fun hl => by rw [decide_eq_true hl] at h1; cases h1
        have hin := letB_in (byteAt s 0 : Nat)
        refine ⟨by omega, by omega, ⟨letB_in _, puF_in _⟩, ?_⟩
        simp only [List.length_drop]
        omega
/-! The program's loop -/
def zeroT : List DEnt := List.replicate 16 (0, 0)
abbrev TpS := (Int × List UInt8 × Unit) × List DEnt × List DEnt × Unit
def tpStp : TpS → Ex × TpS
  | ((e, r, _), t2, t4, _) => bif !(r == []) then
      bif !(entF r).2.2.2 then (.ret, ((3, r, ()), zeroT, t4, ())) else (.normal, ((e, (entF r).2.2.1, ()), t2, t4.set (entF r).1.toNat (entF r).2.1, ()))
    else (.exit 0, ((e, r, ()), t2, t4, ()))
def tpMu (x : TpS) : Nat := x.1.2.1.length
def tpPre (x : TpS) : Prop := x.1.2.1.length ≤ 1000
theorem tpStp_ends (x : TpS) : (tpStp x).1 = .normal ∨ (tpStp x).1 = .exit 0 ∨ (tpStp x).1 = .ret := by
  obtain ⟨⟨e, r, ⟨⟩⟩, t2, t4, ⟨⟩⟩ := x
  unfold tpStp
  simp only
  cases !(r == []) <;> cases (entF r).2.2.2 <;> simp
theorem tp_go {x : TpS} (hp : tpPre x) (h : (tpStp x).1 = .normal) : tpPre (tpStp x).2 ∧ tpMu (tpStp x).2 < tpMu x := by
  obtain ⟨⟨e, r, ⟨⟩⟩, t2, t4, ⟨⟩⟩ := x
  have hp' : r.length ≤ 1000 := hp
  unfold tpStp at h ⊢
  simp only at h ⊢
  cases hb : !(r == []) with
  | false => rw [hb] at h; cases h
  | true =>
    rw [hb] at h
    simp only [cond_true] at h ⊢
    cases hk : (entF r).2.2.2 with
    | false => rw [hk] at h; cases h
    | true =>
      have := (ent_good hk).2.2.2
      refine ⟨?_, ?_⟩
      · show (entF r).2.2.1.length ≤ 1000; omega
      · show (entF r).2.2.1.length < r.length; omega
theorem good_set {t : List DEnt} {i : Nat} {e : DEnt} (h : goodT t) (hi : i < 16) (he : goodE e) : goodT (t.set i e) := by
  refine ⟨by rw [List.length_set]; exact h.1, fun j hj => ?_⟩
  rw [ent_set (by rw [h.1]; exact hi)]
  split
  · exact he
  · exact h.2 j hj
/-- What the loop comes to: where it leaves the function, zero and 3; else a good tree. -/
theorem tp_inv : ∀ (n : Nat) (x : TpS), (goodT x.2.2.1) → tpMu x < n → ((isRet (runF tpStp n x).1 = true → (runF tpStp n x).2.2.1 = zeroT ∧ (runF tpStp n x).2.1.1 = 3) ∧ goodT (runF tpStp n x).2.2.2.1) :=
  fun n x hx hn => runF_inv (stp := tpStp) (J := fun x => goodT x.2.2.1) (Post := fun p => (isRet p.1 = true → p.2.2.1 = zeroT ∧ p.2.1.1 = 3) ∧ goodT p.2.2.2.1) (μ := tpMu) (fun x hx => by
    obtain ⟨⟨e, r, ⟨⟩⟩, t2, t4, ⟨⟩⟩ := x
    unfold tpStp
    simp only
    cases hb : !(r == []) with
    | false => exact ⟨nofun, fun _ => ⟨nofun, hx⟩⟩
    | true =>
      simp only [cond_true]
      cases hk : (entF r).2.2.2 with
      | false => exact ⟨nofun, fun _ => ⟨fun _ => ⟨rfl, rfl⟩, hx⟩⟩
      | true =>
        obtain ⟨g1, g2, g3, g4⟩ := ent_good hk
        exact ⟨fun _ => ⟨good_set hx (by omega) g3, g4⟩, fun h => absurd rfl h⟩) n x hx hn
/-! A told tree, read -/
def plainE (e : DEnt) : Prop := e.2 = -1 ∨ 0 ≤ e.2 ∧ e.2 < 16 ∧ e.1 ≠ 4294967295
def plainT (t : List DEnt) : Prop := goodT t ∧ ∀ j, j < 16 → plainE (entAt t j)
def pchar (p : Int) : UInt8 := bif decide (0 ≤ p) then letF p else 46
theorem pchar_text {p : Int} (h : p = -1 ∨ 0 ≤ p ∧ p < 16) : textN (withF 0 p) = [pchar p] := by
  rcases h with rfl | ⟨h0, h1⟩
  · decide +kernel
  · unfold pchar
    rw [decide_eq_true h0]
    exact (one_text h0 h1).1
theorem pchar_no {p : Int} (h : p = -1 ∨ 0 ≤ p ∧ p < 16) : isDg ((pchar p).toNat : Int) = false ∧ letB ((pchar p).toNat : Int) = p ∧ (decide (letB ((pchar p).toNat : Int) < 0) = true → (((pchar p).toNat : Int) != (46 : Int)) = false) := by
  rcases h with rfl | ⟨h0, h1⟩
  · decide +kernel
  · exact node_cases (p := fun p => isDg ((pchar p).toNat : Int) = false ∧ letB ((pchar p).toNat : Int) = p ∧ (decide (letB ((pchar p).toNat : Int) < 0) = true → (((pchar p).toNat : Int) != (46 : Int)) = false)) h0 h1 (by refine ⟨?_, ?_, ?_, ?_, ?_, ?_, ?_, ?_, ?_, ?_, ?_, ?_, ?_, ?_, ?_, ?_⟩ <;> decide +kernel)
theorem letF_B {n : Int} (h0 : 0 ≤ n) (h1 : n < 16) : letB ((letF n).toNat : Int) = n :=
  node_cases (p := fun n => letB ((letF n).toNat : Int) = n) h0 h1 (by refine ⟨?_, ?_, ?_, ?_, ?_, ?_, ?_, ?_, ?_, ?_, ?_, ?_, ?_, ?_, ?_, ?_⟩ <;> decide +kernel)
theorem pu_more {M : Nat} : ∀ (l : List UInt8) (a : Nat) (b : UInt8), Lib.parseUintM M a (l ++ [b]) = match Lib.parseUintM M a l with
    | .ok m => if 48 ≤ b.toNat ∧ b.toNat ≤ 57 then (if 1844674407370955162 ≤ m then .range else if M < m * 10 + (b.toNat - 48) then .range else .ok (m * 10 + (b.toNat - 48))) else Lib.parseUintB 32 []
    | r => r
  | [], a, b => by
    simp only [List.nil_append, Lib.parseUintM]
    rfl
  | c :: l, a, b => by
    rw [List.cons_append, Lib.parseUintM, Lib.parseUintM]
    split
    · split
      · rfl
      · split
        · rfl
        · exact pu_more l _ b
    · rfl
theorem pu_digits {M : Nat} (hM : M < 18446744073709551610) : ∀ (f n : Nat), n < 10 ^ f → 0 < f → n ≤ M → Lib.parseUintM M 0 (digN f n) = .ok n
  | 0, _, _, h, _ => absurd h (by omega)
  | f + 1, n, h, _, ht => by
    unfold digN
    by_cases h10 : n < 10
    · rw [show Nat.blt n 10 = true by rw [Nat.blt_eq]; exact h10]
      simp only [cond_true, Lib.parseUintM]
      rw [dig_toNat h10, if_pos (by omega), if_neg (by omega), if_neg (by omega)]
      congr 1
      omega
    · rw [show Nat.blt n 10 = false by
        cases hb : Nat.blt n 10 with
        | false => rfl
        | true => exact absurd (by rw [Nat.blt_eq] at hb; exact hb) h10]
      have hf : 0 < f := by
        rcases Nat.eq_zero_or_pos f with h0 | h0
        · subst h0; omega
        · exact h0
      have hd : n / 10 < 10 ^ f := by rw [Nat.pow_succ] at h; omega
      have := Nat.mod_lt n (show 0 < 10 by omega)
      simp only [cond_false]
      rw [pu_more, pu_digits hM f (n / 10) hd hf (by omega)]
      simp only
      rw [dig_toNat this, if_pos (by omega), if_neg (by omega), if_neg (by omega)]
      congr 1
      omega
theorem pu_nat {n : Int} (h0 : 0 ≤ n) (h1 : n ≤ 4294967295) : puF (natT n.toNat) = (n, false) := by
  unfold puF Lib.parseUintB natT
  rw [if_neg (digN_ne _ _ (by omega)), pu_digits (by decide) 20 n.toNat (by omega) (by omega) (by simp; omega)]
  simp only
  rw [Int.toNat_of_nonneg h0]
theorem dg_digits : ∀ (w : List UInt8) (b : UInt8) (l : List UInt8), (∀ c ∈ w, 48 ≤ c.toNat ∧ c.toNat ≤ 57) → isDg (b.toNat : Int) = false → dgLen (w ++ b :: l) = w.length
  | [], b, l, _, h => by
    show (bif isDg (b.toNat : Int) then _ else 0) = 0
    rw [h]; rfl
  | c :: w, b, l, hw, h => by
    have hc := hw c (by simp)
    have e : isDg (c.toNat : Int) = true := by
      unfold isDg
      rw [decide_eq_true (by omega), decide_eq_true (by omega)]; rfl
    show (bif isDg (c.toNat : Int) then dgLen (w ++ b :: l) + 1 else 0) = _
    rw [e, dg_digits w b l (fun x hx => hw x (by simp [hx])) h]
    rfl
/-- An entry as it is told. -/
theorem entB_parts {t : List DEnt} {j : Int} (h0 : 0 ≤ j) (h1 : j < 16) (hg : goodE (entAt t j.toNat)) : entB t j = letF j :: (natT (entAt t j.toNat).1.toNat ++ [pchar (entAt t j.toNat).2, 32]) := by
  unfold entB
  rw [(one_text h0 h1).1, pchar_text hg.1]
  simp
theorem ent_read {t : List DEnt} {j : Int} {l : List UInt8} (h0 : 0 ≤ j) (h1 : j < 16) (hg : goodE (entAt t j.toNat)) : entF (entB t j ++ l) = (j, entAt t j.toNat, l, true) := by
  rw [entB_parts h0 h1 hg]
  obtain ⟨p1, p2, p3⟩ := pchar_no hg.1
  have hn := pu_nat hg.2.1 hg.2.2
  generalize hw : natT (entAt t j.toNat).1.toNat = w at hn ⊢
  have hdig : ∀ c ∈ w, 48 ≤ c.toNat ∧ c.toNat ≤ 57 := fun c hc => digN_no _ _ c (by rw [← hw] at hc; exact hc)
  generalize hs : (letF j :: (w ++ [pchar (entAt t j.toNat).2, 32])) ++ l = s
  have hs' : s = letF j :: (w ++ (pchar (entAt t j.toNat).2 :: (32 :: l))) := by rw [← hs]; simp
  have hend : endN s = 1 + w.length := by
    unfold endN
    rw [hs']
    show 1 + dgLen (w ++ (pchar (entAt t j.toNat).2 :: (32 :: l))) = _
    rw [dg_digits w _ _ hdig p1]
  have b0 : byteAt s 0 = (letF j).toNat := by rw [hs']; rfl
  have b1 : byteAt s (1 + w.length) = (pchar (entAt t j.toNat).2).toNat := by
    rw [hs', Nat.add_comm]
    unfold byteAt
    simp [List.getD_eq_getElem?_getD, List.getElem?_append_right]
  have b2 : byteAt s (1 + w.length + 1) = 32 := by
    rw [hs', show 1 + w.length + 1 = (w.length + 1) + 1 by omega]
    unfold byteAt
    simp [List.getD_eq_getElem?_getD, List.getElem?_append_right]
  have hmid : (s.take (1 + w.length)).drop 1 = w := by
    rw [hs', Nat.add_comm, List.take_succ_cons, List.drop_succ_cons, List.drop_zero, List.take_left' rfl]
  have hdrop : s.drop (1 + w.length + 2) = l := by
    rw [hs', show 1 + w.length + 2 = (w.length + 2) + 1 by omega, List.drop_succ_cons, List.drop_append]
    simp
  have hlen : s.length = 1 + w.length + 2 + l.length := by rw [hs']; simp; omega
  have hj := letF_B h0 h1
  have e1 : entBad s = false := by
    unfold entBad
    rw [hend, b0, hj, hmid, hn, b2, decide_eq_false (by omega), decide_eq_false (by omega)]
    rfl
  have e2 : entBad2 s = false := by
    unfold entBad2
    rw [hend, b1]
    cases hd : decide (letB ((pchar (entAt t j.toNat).2).toNat : Int) < 0) with
    | true => exact p3 hd
    | false => rfl
  unfold entF
  rw [e1, e2, hend, b0, hj, b1, p2, hmid, hn, hdrop]
  rfl
end Go.Ev
/- Trees read: the document's reading, and what both come to. -/
set_option linter.unusedVariables false
set_option linter.unusedSimpArgs false
namespace Go.Ev
/-- The entries of a told tree, one behind the other. -/
theorem tp_ents {t : List DEnt} {e : Int} {t2 : List DEnt} : ∀ (l : List Int) (n : Nat) (acc : List DEnt), (∀ j ∈ l, 0 ≤ j ∧ j < 16 ∧ goodE (entAt t j.toNat)) → (entsB t l).length < n →
    runF tpStp n ((e, entsB t l, ()), t2, acc, ()) = (.exit 0, ((e, [], ()), t2, l.foldl (fun a j => a.set j.toNat (entAt t j.toNat)) acc, ()))
  | [], n + 1, acc, _, _ => by
    have h : tpStp ((e, ([] : List UInt8), ()), t2, acc, ()) = (.exit 0, ((e, [], ()), t2, acc, ())) := rfl
    show runF tpStp (n + 1) ((e, [], ()), t2, acc, ()) = _
    rw [runF_end (by rw [h]; intro h2; cases h2), h]
    rfl
  | _, 0, _, _, h => by omega
  | j :: l, n + 1, acc, hl, hn => by
    obtain ⟨h0, h1, hg⟩ := hl j (by simp)
    have hr := ent_read (l := entsB t l) h0 h1 hg
    rw [← ents_cons] at hr
    have hne : (entsB t (j :: l) == []) = false := by
      rw [ents_cons, entB_parts h0 h1 hg]
      rfl
    have h : tpStp ((e, entsB t (j :: l), ()), t2, acc, ()) = (.normal, ((e, entsB t l, ()), t2, acc.set j.toNat (entAt t j.toNat), ())) := by
      unfold tpStp
      simp only
      rw [hne, hr]
      rfl
    have hlen : (entsB t (j :: l)).length = (entB t j).length + (entsB t l).length := by rw [ents_cons, List.length_append]
    have hpos : 0 < (entB t j).length := by rw [entB_parts h0 h1 hg]; simp
    rw [runF_go h, tp_ents l n _ (fun i hi => hl i (by simp [hi])) (by omega)]
    rfl
theorem fold_len {t : List DEnt} : ∀ (l : List Int) (acc : List DEnt), (l.foldl (fun a j => a.set j.toNat (entAt t j.toNat)) acc).length = acc.length
  | [], acc => rfl
  | j :: l, acc => by rw [List.foldl_cons, fold_len l, List.length_set]
theorem fold_at {t : List DEnt} : ∀ (l : List Int) (acc : List DEnt) (i : Nat), acc.length = 16 → i < 16 → (∀ j ∈ l, 0 ≤ j) → entAt (l.foldl (fun a j => a.set j.toNat (entAt t j.toNat)) acc) i = if (i : Int) ∈ l then entAt t i else entAt acc i
  | [], acc, i, _, _, _ => by simp
  | j :: l, acc, i, ha, hi, hl => by
    have h0 := hl j (by simp)
    rw [List.foldl_cons, fold_at l _ i (by rw [List.length_set]; exact ha) hi (fun x hx => hl x (by simp [hx]))]
    by_cases hm : (i : Int) ∈ l
    · rw [if_pos hm, if_pos (by simp [hm])]
    · rw [if_neg hm]
      by_cases hj : j.toNat = i
      · have hj' : (i : Int) = j := by omega
        rw [if_pos (by simp [hj'])]
        unfold entAt
        rw [← hj]
        by_cases hlt : j.toNat < acc.length
        · simp [List.getD_eq_getElem?_getD, hlt]
        · omega
      · have hj' : ¬ (i : Int) = j := by omega
        rw [if_neg (by simp [hm, hj'])]
        unfold entAt
        simp [List.getD_eq_getElem?_getD, List.getElem?_set_ne hj]
theorem good_far : goodT farT := ⟨by simp [farT], fun j hj => by rw [ent_far hj]; exact ⟨.inl rfl, by decide, by decide⟩⟩
theorem plain_fold {t : List DEnt} (h : plainT t) : (elemsF (reachT t) 16).foldl (fun a j => a.set j.toNat (entAt t j.toNat)) farT = t := by
  have hf := good_far.1
  refine ent_ext (by rw [fold_len]; exact hf) h.1.1 fun j hj => ?_
  rw [fold_at _ _ j hf hj (fun i hi => (elem_in (Nat.le_refl 16) hi).1)]
  have hr := has_reach t (n := (j : Int)) (by omega) (by omega)
  rw [Int.toNat_natCast] at hr
  split
  · rfl
  · rename_i hm
    have hno : hasF (reachT t) (j : Int) = false := by
      cases hh : hasF (reachT t) (j : Int) with
      | false => rfl
      | true => exact absurd (in_elem (k := 16) (by omega) hh (by omega)) hm
    rw [hno] at hr
    have hfar : (entAt t j).1 = 4294967295 := by
      have := hr.symm
      simpa using this
    rw [ent_far hj]
    have hp := h.2 j hj
    unfold plainE at hp
    rcases hp with hp | ⟨_, _, hp⟩
    · exact Prod.ext hfar.symm hp.symm
    · exact absurd hfar hp
theorem reach_in {t : List DEnt} (h : goodT t) : ∀ j ∈ elemsF (reachT t) 16, 0 ≤ j ∧ j < 16 ∧ goodE (entAt t j.toNat) := fun j hj => by
  obtain ⟨h0, h1, _⟩ := elem_in (Nat.le_refl 16) hj
  exact ⟨h0, h1, h.2 _ (by omega)⟩
def tpRun (s : List UInt8) : Ex × TpS := runF tpStp (tpMu ((0, s, ()), zeroT, farT, ()) + 1) ((0, s, ()), zeroT, farT, ())
theorem tp_told {t : List DEnt} (h : plainT t) : (tpRun (treeB t)).1 = .exit 0 ∧ (tpRun (treeB t)).2.2.2.1 = t := by
  have := tp_ents (t := t) (e := 0) (t2 := zeroT) (elemsF (reachT t) 16) (tpMu ((0, treeB t, ()), zeroT, farT, ()) + 1) farT (reach_in h.1) (Nat.lt_succ_self _)
  have e : tpRun (treeB t) = (.exit 0, ((0, [], ()), zeroT, (elemsF (reachT t) 16).foldl (fun a j => a.set j.toNat (entAt t j.toNat)) farT, ())) := this
  rw [e]
  exact ⟨rfl, plain_fold h⟩
/-! The document's machine -/
def cA (st c : Int) : Bool := bif (bif st == (0 : Int) then decide (c ≥ 97) else false) then decide (c ≤ 112) else false
def cB (st c n : Int) : Bool := bif (bif (bif (bif decide (st > 0) then decide (st < 3) else false) then decide (c ≥ 48) else false) then decide (c ≤ 57) else false) then decide (n < 4294967296) else false
def cC (st c n : Int) : Bool := bif (bif st == (2 : Int) then (bif c == (46 : Int) then true else bif decide (c ≥ 97) then decide (c ≤ 112) else false) else false) then decide (n < 4294967295) else false
def cD (st c : Int) : Bool := bif st == (3 : Int) then c == (32 : Int) else false
abbrev RtS := (List UInt8 × Int × Int × Int × Int × Int × Int × Unit) × List DEnt × List DEnt × Unit
def rtSt (s : List UInt8) (e j n st i : Int) (t2 t4 : List DEnt) : RtS := ((s, e, j, n, st, (s.length : Int), i, ()), t2, t4, ())
def rtStp : RtS → Ex × RtS
  | ((s, e, j, n, st, len, i, _), t2, t4, _) =>
    bif decide (i < len) then
      bif cA st (byteAt s i.toNat : Nat) then (.normal, ((s, e, (byteAt s i.toNat : Int) - 97, 0, 1, len, i + 1, ()), t2, t4, ()))
      else bif cB st (byteAt s i.toNat : Nat) n then (.normal, ((s, e, j, n * 10 + ((byteAt s i.toNat : Int) - 48), 2, len, i + 1, ()), t2, t4, ()))
      else bif cC st (byteAt s i.toNat : Nat) n then (.normal, ((s, e, j, n, 3, len, i + 1, ()), t2, putT t4 j (n, bif (byteAt s i.toNat : Int) != (46 : Int) then (byteAt s i.toNat : Int) - 97 else -1), ()))
      else bif cD st (byteAt s i.toNat : Nat) then (.normal, ((s, e, j, n, 0, len, i + 1, ()), t2, t4, ()))
      else (.ret, ((s, 3, j, n, st, len, i, ()), zeroT, t4, ()))
    else (.exit 0, ((s, e, j, n, st, len, i, ()), t2, t4, ()))
def rtMu (x : RtS) : Nat := (x.1.2.2.2.2.2.1 - x.1.2.2.2.2.2.2.1).toNat
def rtPre (x : RtS) : Prop := x.1.2.2.2.2.2.1 = (x.1.1.length : Int) ∧ x.1.1.length ≤ 1000 ∧ 0 ≤ x.1.2.2.2.2.2.2.1 ∧ x.1.2.2.2.2.2.2.1 ≤ x.1.1.length ∧ 0 ≤ x.1.2.2.2.1 ∧ x.1.2.2.2.1 ≤ 42949672969
theorem rtStp_ends (x : RtS) : (rtStp x).1 = .normal ∨ (rtStp x).1 = .exit 0 ∨ (rtStp x).1 = .ret := by
  obtain ⟨⟨s, e, j, n, st, len, i, ⟨⟩⟩, t2, t4, ⟨⟩⟩ := x
  unfold rtStp
  simp only
  cases decide (i < len) <;> cases cA st (byteAt s i.toNat : Nat) <;> cases cB st (byteAt s i.toNat : Nat) n <;> cases cC st (byteAt s i.toNat : Nat) n <;> cases cD st (byteAt s i.toNat : Nat) <;> simp
theorem cB_in {st c n : Int} (h : cB st c n = true) : 48 ≤ c ∧ c ≤ 57 ∧ n < 4294967296 := by
  unfold cB at h
  have h1 : n < 4294967296 := by
    by_cases h1 : n < 4294967296
    · exact h1
    · rw [decide_eq_false h1] at h
      generalize (bif (bif (bif decide (st > 0) then decide (st < 3) else false) then decide (c ≥ 48) else false) then decide (c ≤ 57) else false) = b at h
      cases b <;> cases h
  have h2 : c ≤ 57 := by
    by_cases h2 : c ≤ 57
    · exact h2
    · rw [decide_eq_false h2] at h
      generalize (bif (bif decide (st > 0) then decide (st < 3) else false) then decide (c ≥ 48) else false) = b at h
      cases b <;> cases h
  have h3 : c ≥ 48 := by
    by_cases h3 : c ≥ 48
    · exact h3
    · rw [decide_eq_false h3] at h
      generalize (bif decide (st > 0) then decide (st < 3) else false) = b at h
      cases b <;> cases h
  omega
theorem rt_go {x : RtS} (hp : rtPre x) (h : (rtStp x).1 = .normal) : rtPre (rtStp x).2 ∧ rtMu (rtStp x).2 < rtMu x := by
  obtain ⟨⟨s, e, j, n, st, len, i, ⟨⟩⟩, t2, t4, ⟨⟩⟩ := x
  obtain ⟨h1, h2, h3, h4, h5, h6⟩ := hp
  simp only at h1 h2 h3 h4 h5 h6
  subst h1
  unfold rtStp at h ⊢
  simp only at h ⊢
  cases hl : decide (i < (s.length : Int)) with
  | false => rw [hl] at h; cases h
  | true =>
    have hlt := of_decide_eq_true hl
    rw [hl] at h
    simp only [cond_true] at h ⊢
    have hb := byteAt_lt s i.toNat
    have hmu : ((s.length : Int) - (i + 1)).toNat < ((s.length : Int) - i).toNat := by omega
    cases hA : cA st (byteAt s i.toNat : Nat) with
    | true => exact ⟨⟨rfl, h2, by show 0 ≤ i + 1; omega, by show i + 1 ≤ (s.length : Int); omega, Int.le_refl _, by show (0 : Int) ≤ 42949672969; decide⟩, hmu⟩
    | false =>
      rw [hA] at h
      simp only [cond_false] at h ⊢
      cases hB : cB st (byteAt s i.toNat : Nat) n with
      | true =>
        have := cB_in hB
        refine ⟨⟨rfl, h2, by show 0 ≤ i + 1; omega, by show i + 1 ≤ (s.length : Int); omega, ?_, ?_⟩, hmu⟩
        · show 0 ≤ n * 10 + ((byteAt s i.toNat : Int) - 48); omega
        · show n * 10 + ((byteAt s i.toNat : Int) - 48) ≤ 42949672969; omega
      | false =>
        rw [hB] at h
        simp only [cond_false] at h ⊢
        cases hC : cC st (byteAt s i.toNat : Nat) n with
        | true => exact ⟨⟨rfl, h2, by show 0 ≤ i + 1; omega, by show i + 1 ≤ (s.length : Int); omega, h5, h6⟩, hmu⟩
        | false =>
          rw [hC] at h
          simp only [cond_false] at h ⊢
          cases hD : cD st (byteAt s i.toNat : Nat) with
          | true => exact ⟨⟨rfl, h2, by show 0 ≤ i + 1; omega, by show i + 1 ≤ (s.length : Int); omega, h5, h6⟩, hmu⟩
          | false => rw [hD] at h; cases h
theorem cC_in {st c n : Int} (h : cC st c n = true) : n < 4294967295 ∧ (c = 46 ∨ 97 ≤ c ∧ c ≤ 112) := by
  unfold cC at h
  have h1 : n < 4294967295 := by
    by_cases h1 : n < 4294967295
    · exact h1
    · rw [decide_eq_false h1] at h
      generalize (bif st == (2 : Int) then (bif c == (46 : Int) then true else bif decide (c ≥ 97) then decide (c ≤ 112) else false) else false) = b at h
      cases b <;> cases h
  refine ⟨h1, ?_⟩
  by_cases h2 : c = 46
  · exact .inl h2
  · right
    have e : (c == (46 : Int)) = false := by simpa using h2
    rw [e] at h
    by_cases h3 : c ≥ 97
    · by_cases h4 : c ≤ 112
      · exact ⟨h3, h4⟩
      · rw [decide_eq_true h3, decide_eq_false h4] at h
        cases hs : st == (2 : Int) <;> rw [hs] at h <;> cases h
    · rw [decide_eq_false h3] at h
      cases hs : st == (2 : Int) <;> rw [hs] at h <;> cases h
theorem good_put {t : List DEnt} {j : Int} {e : DEnt} (h : goodT t) (he : goodE e) : goodT (putT t j e) := by
  unfold putT
  cases hr : rightF j with
  | false => exact h
  | true =>
    have := rightF_iff.1 hr
    exact good_set h (by omega) he
/-- What the machine comes to. -/
theorem rt_inv : ∀ (n : Nat) (x : RtS), (goodT x.2.2.1 ∧ 0 ≤ x.1.2.2.2.1) → rtMu x < n → ((isRet (runF rtStp n x).1 = true → (runF rtStp n x).2.2.1 = zeroT ∧ (runF rtStp n x).2.1.2.1 = 3) ∧ goodT (runF rtStp n x).2.2.2.1) :=
  fun n x hx hn => runF_inv (stp := rtStp) (J := fun x => goodT x.2.2.1 ∧ 0 ≤ x.1.2.2.2.1) (Post := fun p => (isRet p.1 = true → p.2.2.1 = zeroT ∧ p.2.1.2.1 = 3) ∧ goodT p.2.2.2.1) (μ := rtMu) (fun x hx => by
    obtain ⟨⟨s, e, j, n, st, len, i, ⟨⟩⟩, t2, t4, ⟨⟩⟩ := x
    obtain ⟨hx, h5⟩ := hx
    simp only at hx h5
    unfold rtStp
    simp only
    cases hl : decide (i < len) with
    | false => exact ⟨nofun, fun _ => ⟨nofun, hx⟩⟩
    | true =>
      have hlt := of_decide_eq_true hl
      simp only [cond_true]
      have hb := byteAt_lt s i.toNat
      have hmu : (len - (i + 1)).toNat < (len - i).toNat := by omega
      cases hA : cA st (byteAt s i.toNat : Nat) with
      | true => exact ⟨fun _ => ⟨⟨hx, Int.le_refl _⟩, hmu⟩, fun h => absurd rfl h⟩
      | false =>
        simp only [cond_false]
        cases hB : cB st (byteAt s i.toNat : Nat) n with
        | true =>
          have := cB_in hB
          exact ⟨fun _ => ⟨⟨hx, by show 0 ≤ n * 10 + ((byteAt s i.toNat : Int) - 48); omega⟩, hmu⟩, fun h => absurd rfl h⟩
        | false =>
          simp only [cond_false]
          cases hC : cC st (byteAt s i.toNat : Nat) n with
          | true =>
            have hc := cC_in hC
            refine ⟨fun _ => ⟨⟨good_put hx ⟨?_, h5, ?_⟩, h5⟩, hmu⟩, fun h => absurd rfl h⟩
            · rcases hc.2 with h46 | ⟨h97, h112⟩
              · left
                have e : (((byteAt s i.toNat : Nat) : Int) != (46 : Int)) = false := by simpa using h46
                rw [e]; rfl
              · right
                have e : (((byteAt s i.toNat : Nat) : Int) != (46 : Int)) = true := by simp; omega
                rw [e]
                show 0 ≤ ((byteAt s i.toNat : Nat) : Int) - 97 ∧ ((byteAt s i.toNat : Nat) : Int) - 97 < 16
                omega
            · show n ≤ 4294967295; omega
          | false =>
            simp only [cond_false]
            cases hD : cD st (byteAt s i.toNat : Nat) with
            | true => exact ⟨fun _ => ⟨⟨hx, h5⟩, hmu⟩, fun h => absurd rfl h⟩
            | false => exact ⟨nofun, fun _ => ⟨fun _ => ⟨rfl, rfl⟩, hx⟩⟩) n x hx hn
def rtRun (x : RtS) : Ex × RtS := runF rtStp (rtMu x + 1) x
theorem rtr_go {x y : RtS} (hp : rtPre x) (h : rtStp x = (.normal, y)) : rtPre y ∧ rtRun x = rtRun y := by
  have h1 : (rtStp x).1 = .normal := by rw [h]
  obtain ⟨g1, g2⟩ := rt_go hp h1
  rw [h] at g1 g2
  refine ⟨g1, ?_⟩
  unfold rtRun
  rw [runF_go h]
  exact runF_fuel (pre := rtPre) (μ := rtMu) (fun z hz hn => rt_go hz hn) _ _ _ g1 g2 (by omega)
end Go.Ev
/- A command read letter by letter. -/
set_option linter.unusedVariables false
set_option linter.unusedSimpArgs false
namespace Go.Ev
abbrev DgS := (Int × Unit) × DCmd × DCmd × (List UInt8 × Nat) × Unit
def dgStp : DgS → Ex × DgS
  | ((e, _), c2, c4, (y, pos), _) =>
    bif Nat.blt pos y.length then
      bif badD 1048576 ((decL y pos).1 : Int) c4.2.2 then (.ret, ((3, ()), (0, 0, 0), c4, (y, decN y pos), ()))
      else (.normal, ((e, ()), c2, (c4.1, c4.2.1, c4.2.2 * 10 + (((decL y pos).1 : Int) - 48)), (y, decN y pos), ()))
    else (.exit 3, ((e, ()), c2, c4, (y, decN y pos), ()))
def dgMu (x : DgS) : Nat := x.2.2.2.1.1.length - x.2.2.2.1.2
def dgPre (x : DgS) : Prop := 0 ≤ x.2.2.1.2.2 ∧ x.2.2.1.2.2 ≤ 10485769
theorem dgStp_ends (x : DgS) : (dgStp x).1 = .normal ∨ (dgStp x).1 = .exit 3 ∨ (dgStp x).1 = .ret := by
  obtain ⟨⟨e, ⟨⟩⟩, c2, c4, ⟨y, pos⟩, ⟨⟩⟩ := x
  unfold dgStp
  simp only
  cases Nat.blt pos y.length with
  | false => exact .inr (.inl rfl)
  | true => cases badD 1048576 ((decL y pos).1 : Int) c4.2.2 with
    | true => exact .inr (.inr rfl)
    | false => exact .inl rfl
theorem dg_go {x : DgS} (h : (dgStp x).1 = .normal) (h0 : dgPre x) : dgPre (dgStp x).2 ∧ dgMu (dgStp x).2 < dgMu x := by
  obtain ⟨⟨e, ⟨⟩⟩, c2, c4, ⟨y, pos⟩, ⟨⟩⟩ := x
  unfold dgStp at h ⊢
  simp only at h ⊢
  cases hb : Nat.blt pos y.length with
  | false => rw [hb] at h; cases h
  | true =>
    rw [hb] at h
    cases hc : badD 1048576 ((decL y pos).1 : Int) c4.2.2 with
    | true => rw [hc] at h; cases h
    | false =>
      have := badD_no hc
      obtain ⟨h1, h2⟩ := h0
      simp only at h1 h2
      refine ⟨⟨?_, ?_⟩, decN_lt hb⟩
      · show 0 ≤ c4.2.2 * 10 + (((decL y pos).1 : Int) - 48)
        omega
      · show c4.2.2 * 10 + (((decL y pos).1 : Int) - 48) ≤ 10485769
        omega
theorem dg_pre : ∀ (n : Nat) (x : DgS), dgPre x → dgMu x < n → dgPre (runF dgStp n x).2 ∧ (isRet (runF dgStp n x).1 = true → (runF dgStp n x).2.1.1 = 3 ∧ (runF dgStp n x).2.2.1 = (0, 0, 0)) :=
  fun n x hx hn => runF_inv (stp := dgStp) (J := dgPre) (Post := fun p => dgPre p.2 ∧ (isRet p.1 = true → p.2.1.1 = 3 ∧ p.2.2.1 = (0, 0, 0))) (μ := dgMu) (fun x hx => by
    refine ⟨fun hn => dg_go hn hx, fun hn => ?_⟩
    obtain ⟨⟨e, ⟨⟩⟩, c2, c4, ⟨y, pos⟩, ⟨⟩⟩ := x
    unfold dgStp at hn ⊢
    simp only at hn ⊢
    cases hb : Nat.blt pos y.length with
    | false => exact ⟨hx, fun h => (by cases h)⟩
    | true =>
      rw [hb] at hn
      cases hc : badD 1048576 ((decL y pos).1 : Int) c4.2.2 with
      | true => exact ⟨hx, fun _ => ⟨rfl, rfl⟩⟩
      | false => rw [hc] at hn; exact absurd rfl hn) n x hx hn
def dgEnd (o : Option Int) (a b : Int) (p : Ex × DgS) : Prop := match o with
  | none => p.1 = .ret
  | some v => p.1 = .exit 3 ∧ p.2.2.2.1 = (a, b, v)
theorem dg_run {y : List UInt8} {o : Option Int} {a b : Int} : ∀ (n : Nat) (x : DgS), (x.2.2.2.1.1 = y ∧ x.2.2.1.1 = a ∧ x.2.2.1.2.1 = b ∧ dgPre x ∧ numGo 1048576 (y.drop x.2.2.2.1.2) x.2.2.1.2.2 = o) → dgMu x < n → dgEnd o a b (runF dgStp n x) :=
  runF_inv fun x hx => by
    obtain ⟨h1, ha, hb', hp, h2⟩ := hx
    have hgo := fun hn => dg_go (x := x) hn hp
    obtain ⟨⟨er, ⟨⟩⟩, c2, ⟨k, nd, s⟩, ⟨y', pos⟩, ⟨⟩⟩ := x
    simp only at h1 h2 ha hb'
    subst h1 ha hb'
    cases hb : Nat.blt pos y'.length with
    | false =>
      have hlt : ¬ pos < y'.length := fun h => by rw [blt_iff.2 h] at hb; cases hb
      have e : dgStp ((er, ()), c2, (k, nd, s), (y', pos), ()) = (.exit 3, ((er, ()), c2, (k, nd, s), (y', decN y' pos), ())) := by unfold dgStp; simp only; rw [hb]; rfl
      rw [e]
      refine ⟨fun h => (by cases h), fun _ => ?_⟩
      rw [List.drop_eq_nil_of_le (by omega), numGo] at h2
      subst h2
      exact ⟨rfl, rfl⟩
    | true =>
      have hlt := blt_iff.1 hb
      rw [drop_byte hlt, numGo] at h2
      cases hc : badD 1048576 ((decL y' pos).1 : Int) s with
      | true =>
        have e : dgStp ((er, ()), c2, (k, nd, s), (y', pos), ()) = (.ret, ((3, ()), (0, 0, 0), (k, nd, s), (y', decN y' pos), ())) := by unfold dgStp; simp only; rw [hb, hc]; rfl
        rw [e]
        refine ⟨fun h => (by cases h), fun _ => ?_⟩
        have h3 : o = none := by
          by_cases hlow : byteAt y' pos < 128
          · have e : ((y'.getD pos 0).toNat : Int) = ((decL y' pos).1 : Int) := by rw [decL_low hlow]; rfl
            rw [e, ← badD_eq, hc] at h2
            exact h2.symm
          · rw [← badD_eq, badD_high (by have : byteAt y' pos = (y'.getD pos 0).toNat := rfl; omega)] at h2
            exact h2.symm
        subst h3
        exact rfl
      | false =>
        have e : dgStp ((er, ()), c2, (k, nd, s), (y', pos), ()) = (.normal, ((er, ()), c2, (k, nd, s * 10 + (((decL y' pos).1 : Int) - 48)), (y', decN y' pos), ())) := by unfold dgStp; simp only; rw [hb, hc]; rfl
        rw [e] at hgo ⊢
        refine ⟨fun _ => ⟨⟨rfl, rfl, rfl, (hgo rfl).1, ?_⟩, decN_lt hb⟩, fun h => absurd rfl h⟩
        by_cases hlow : byteAt y' pos < 128
        · have e : ((y'.getD pos 0).toNat : Int) = ((decL y' pos).1 : Int) := by rw [decL_low hlow]; rfl
          rw [e, ← badD_eq, hc] at h2
          simp only
          rw [decN_low hlt hlow]
          exact h2
        · rw [badD_high (by have := (decL_high hlow).1; omega)] at hc
          cases hc
/-! The whole -/
def kUp (t : List UInt8) (c : DCmd) : DCmd := (bif wordK 4 == t then 4 else bif wordK 3 == t then 3 else bif wordK 2 == t then 2 else bif wordK 1 == t then 1 else c.1, c.2)
def rDg (e : Int) (c2 c4 : DCmd) (t : List UInt8) : Ex × DgS := runF dgStp (dgMu ((e, ()), c2, c4, (t, 0), ()) + 1) ((e, ()), c2, c4, (t, 0), ())
abbrev RS := (Int × Int × List UInt8 × Unit) × DCmd × DCmd × (List UInt8 × Nat) × Unit
def rSt (e w : Int) (t : List UInt8) (c2 c4 : DCmd) (y : List UInt8) (pos : Nat) : RS := ((e, w, t, ()), c2, c4, (y, pos), ())
def rStp : RS → Ex × RS
  | ((e, w, t, _), c2, c4, (y, pos), _) =>
    bif Nat.blt pos y.length then
      bif ((decL y pos).1 : Int) != (32 : Int) then (.normal, ((e, w, t ++ encR ((decL y pos).1 : Int), ()), c2, c4, (y, decN y pos), ()))
      else bif w == (0 : Int) then (.normal, ((e, w + 1, [], ()), c2, kUp t c4, (y, decN y pos), ()))
      else bif w == (1 : Int) then
        bif (bif (nparseF t).2 != (0 : Int) then true else (((elemsF (nparseF t).1 16).length : Int) != (1 : Int))) then (.ret, ((3, w, t, ()), (0, 0, 0), c4, (y, decN y pos), ()))
        else (.normal, ((e, w + 1, [], ()), c2, (c4.1, (elemsF (nparseF t).1 16).getD 0 0, c4.2.2), (y, decN y pos), ()))
      else bif isRet (rDg e c2 c4 t).1 then (.ret, (((rDg e c2 c4 t).2.1.1, w, t, ()), (rDg e c2 c4 t).2.2.1, (rDg e c2 c4 t).2.2.2.1, (y, decN y pos), ()))
      else (.normal, (((rDg e c2 c4 t).2.1.1, w + 1, [], ()), (rDg e c2 c4 t).2.2.1, (rDg e c2 c4 t).2.2.2.1, (y, decN y pos), ()))
    else (.exit 0, ((e, w, t, ()), c2, c4, (y, decN y pos), ()))
def rPre (x : RS) : Prop := x.2.2.2.1.1.length ≤ 41 ∧ x.2.2.2.1.2 ≤ x.2.2.2.1.1.length ∧ x.1.2.2.1.length ≤ 4 * x.2.2.2.1.2 ∧ 0 ≤ x.1.2.1 ∧ x.1.2.1 ≤ x.2.2.2.1.2 ∧ 0 ≤ x.2.2.1.2.2 ∧ x.2.2.1.2.2 ≤ 10485769
def rMu (x : RS) : Nat := x.2.2.2.1.1.length - x.2.2.2.1.2
theorem rStp_ends (x : RS) : (rStp x).1 = .normal ∨ (rStp x).1 = .exit 0 ∨ (rStp x).1 = .ret := by
  obtain ⟨⟨e, w, t, ⟨⟩⟩, c2, c4, ⟨y, pos⟩, ⟨⟩⟩ := x
  unfold rStp
  simp only
  cases Nat.blt pos y.length <;> cases ((decL y pos).1 : Int) != (32 : Int) <;> cases w == (0 : Int) <;> cases w == (1 : Int) <;>
    cases (bif (nparseF t).2 != (0 : Int) then true else (((elemsF (nparseF t).1 16).length : Int) != (1 : Int))) <;> cases isRet (rDg e c2 c4 t).1 <;> simp
theorem encR_four (n : Int) : (encR n).length ≤ 4 := by
  unfold encR Utf8.encode
  simp only
  repeat' split
  all_goals simp
theorem r_go {x : RS} (hp : rPre x) (h : (rStp x).1 = .normal) : rPre (rStp x).2 ∧ rMu (rStp x).2 < rMu x := by
  obtain ⟨⟨e, w, t, ⟨⟩⟩, c2, ⟨k, nd, s⟩, ⟨y, pos⟩, ⟨⟩⟩ := x
  obtain ⟨h1, h2, h3, h4, h5, h6, h7⟩ := hp
  simp only at h1 h2 h3 h4 h5 h6 h7
  have hle := decN_le h2
  unfold rStp at h ⊢
  simp only at h ⊢
  cases hb : Nat.blt pos y.length with
  | false => rw [hb] at h; cases h
  | true =>
    have hlt := blt_iff.1 hb
    have hN := decN_go hlt
    have hpos := decL_pos y pos
    rw [hb] at h
    simp only [cond_true] at h ⊢
    cases hc : ((decL y pos).1 : Int) != (32 : Int) with
    | true =>
      simp only [cond_true]
      have := encR_four ((decL y pos).1 : Int)
      refine ⟨⟨h1, hle, ?_, h4, ?_, h6, h7⟩, decN_lt hb⟩
      · simp only [List.length_append]; omega
      · simp only; omega
    | false =>
      rw [hc] at h
      simp only [cond_false] at h ⊢
      cases hw : w == (0 : Int) with
      | true =>
        simp only [cond_true]
        refine ⟨⟨h1, hle, Nat.zero_le _, ?_, ?_, h6, h7⟩, decN_lt hb⟩
        · simp only; omega
        · simp only; omega
      | false =>
        rw [hw] at h
        simp only [cond_false] at h ⊢
        cases hw1 : w == (1 : Int) with
        | true =>
          rw [hw1] at h
          simp only [cond_true] at h ⊢
          cases hn : (bif (nparseF t).2 != (0 : Int) then true else (((elemsF (nparseF t).1 16).length : Int) != (1 : Int))) with
          | true => rw [hn] at h; cases h
          | false =>
            simp only [cond_false]
            refine ⟨⟨h1, hle, Nat.zero_le _, ?_, ?_, h6, h7⟩, decN_lt hb⟩
            · simp only; omega
            · simp only; omega
        | false =>
          rw [hw1] at h
          simp only [cond_false] at h ⊢
          have hd := dg_pre (dgMu ((e, ()), c2, (k, nd, s), (t, 0), ()) + 1) ((e, ()), c2, (k, nd, s), (t, 0), ()) ⟨h6, h7⟩ (by omega)
          change dgPre (rDg e c2 (k, nd, s) t).2 ∧ _ at hd
          cases hr : isRet (rDg e c2 (k, nd, s) t).1 with
          | true => rw [hr] at h; cases h
          | false =>
            simp only [cond_false]
            refine ⟨⟨h1, hle, Nat.zero_le _, ?_, ?_, hd.1.1, hd.1.2⟩, decN_lt hb⟩
            · simp only; omega
            · simp only; omega
def rRun (x : RS) : Ex × RS := runF rStp (rMu x + 1) x
theorem rr_go {x y : RS} (hp : rPre x) (h : rStp x = (.normal, y)) : rPre y ∧ rRun x = rRun y := by
  have h1 : (rStp x).1 = .normal := by rw [h]
  obtain ⟨g1, g2⟩ := r_go hp h1
  rw [h] at g1 g2
  refine ⟨g1, ?_⟩
  unfold rRun
  rw [runF_go h]
  exact runF_fuel (pre := rPre) (μ := rMu) (fun z hz hn => r_go hz hn) _ _ _ g1 g2 (by omega)
theorem rr_end {x : RS} (h : (rStp x).1 ≠ .normal) : rRun x = rStp x := runF_end h
/-- Where it leaves the function, it says so. -/
theorem rr_ret {x : RS} (hp : rPre x) : (isRet (rRun x).1 = true → (rRun x).2.2.1 = (0, 0, 0) ∧ (rRun x).2.1.1 = 3) ∧ (isRet (rRun x).1 = false → (rRun x).1 = .exit 0) := by
  refine runF_inv (stp := rStp) (J := rPre) (Post := fun p => (isRet p.1 = true → p.2.2.1 = (0, 0, 0) ∧ p.2.1.1 = 3) ∧ (isRet p.1 = false → p.1 = .exit 0)) (μ := rMu) (fun x hx => ⟨fun hn => r_go hx hn, fun hn => ?_⟩) _ x hp (by omega)
  have he := (rStp_ends x).resolve_left hn
  refine ⟨fun h => ?_, fun h => he.resolve_right (fun h2 => by rw [h2] at h; cases h)⟩
  obtain ⟨⟨e, w, t, ⟨⟩⟩, c2, ⟨k, nd, s⟩, ⟨y, pos⟩, ⟨⟩⟩ := x
  obtain ⟨h1, h2, h3, h4, h5, h6, h7⟩ := hx
  simp only at h1 h2 h3 h4 h5 h6 h7
  have hd := dg_pre (dgMu ((e, ()), c2, (k, nd, s), (t, 0), ()) + 1) ((e, ()), c2, (k, nd, s), (t, 0), ()) ⟨h6, h7⟩ (by omega)
  change dgPre (rDg e c2 (k, nd, s) t).2 ∧ (isRet (rDg e c2 (k, nd, s) t).1 = true → (rDg e c2 (k, nd, s) t).2.1.1 = 3 ∧ (rDg e c2 (k, nd, s) t).2.2.1 = (0, 0, 0)) at hd
  clear he hn
  unfold rStp at h ⊢
  simp only at h ⊢
  cases hb : Nat.blt pos y.length with
  | false => rw [hb] at h; cases h
  | true =>
    rw [hb] at h
    simp only [cond_true] at h ⊢
    cases hc : ((decL y pos).1 : Int) != (32 : Int) with
    | true => rw [hc] at h; cases h
    | false =>
      rw [hc] at h
      simp only [cond_false] at h ⊢
      cases hw : w == (0 : Int) with
      | true => rw [hw] at h; cases h
      | false =>
        rw [hw] at h
        simp only [cond_false] at h ⊢
        cases hw1 : w == (1 : Int) with
        | true =>
          rw [hw1] at h
          simp only [cond_true] at h ⊢
          cases hn : (bif (nparseF t).2 != (0 : Int) then true else (((elemsF (nparseF t).1 16).length : Int) != (1 : Int))) with
          | true => exact ⟨rfl, rfl⟩
          | false => rw [hn] at h; cases h
        | false =>
          rw [hw1] at h
          simp only [cond_false] at h ⊢
          cases hr : isRet (rDg e c2 (k, nd, s) t).1 with
          | true => exact ⟨(hd.2 hr).2, (hd.2 hr).1⟩
          | false => rw [hr] at h; cases h
end Go.Ev
/- A printed command, read letter by letter. -/
set_option linter.unusedVariables false
set_option linter.unusedSimpArgs false
namespace Go.Ev
theorem encR_small : ∀ n : Nat, n < 128 → encR (n : Int) = [UInt8.ofNat n] := by decide +kernel
theorem encR_low {b : UInt8} (h : b.toNat < 128) : encR (b.toNat : Int) = [b] := by
  rw [encR_small _ h, UInt8.ofNat_toNat]
theorem r_letter {e w : Int} {t : List UInt8} {c2 c4 : DCmd} {y : List UInt8} {pos : Nat} (hlt : pos < y.length) (h1 : byteAt y pos < 128) (h2 : byteAt y pos ≠ 32) :
    rStp (rSt e w t c2 c4 y pos) = (.normal, rSt e w (t ++ [y.getD pos 0]) c2 c4 y (pos + 1)) := by
  have he : encR ((decL y pos).1 : Int) = [y.getD pos 0] := by
    rw [decL_low h1]
    exact encR_low h1
  have hn : (((decL y pos).1 : Int) != (32 : Int)) = true := by
    rw [decL_low h1]
    simp only [bne_iff_ne, ne_eq]
    omega
  show rStp ((e, w, t, ()), c2, c4, (y, pos), ()) = _
  unfold rStp
  simp only
  rw [blt_iff.2 hlt, hn, he, decN_low hlt h1]
  rfl
theorem r_seg {e w : Int} {c2 c4 : DCmd} {y : List UInt8} : ∀ (k : Nat) {t : List UInt8} {pos : Nat}, rPre (rSt e w t c2 c4 y pos) → pos + k ≤ y.length → (∀ j, pos ≤ j → j < pos + k → byteAt y j < 128 ∧ byteAt y j ≠ 32) →
    rPre (rSt e w (t ++ (y.drop pos).take k) c2 c4 y (pos + k)) ∧ rRun (rSt e w t c2 c4 y pos) = rRun (rSt e w (t ++ (y.drop pos).take k) c2 c4 y (pos + k))
  | 0, t, pos, hp, _, _ => by simpa using hp
  | k + 1, t, pos, hp, hl, hb => by
    have hlt : pos < y.length := by omega
    obtain ⟨h1, h2⟩ := hb pos (Nat.le_refl _) (by omega)
    obtain ⟨g1, g2⟩ := rr_go hp (r_letter hlt h1 h2)
    obtain ⟨g3, g4⟩ := r_seg k g1 (by omega) (fun j h3 h4 => hb j (by omega) (by omega))
    have e1 : (t ++ [y.getD pos 0]) ++ (y.drop (pos + 1)).take k = t ++ (y.drop pos).take (k + 1) := by
      rw [drop_byte hlt, List.take_succ_cons, List.append_assoc]
      rfl
    rw [e1, show pos + 1 + k = pos + (k + 1) by omega] at g3 g4
    exact ⟨g3, g2.trans g4⟩
theorem blank {y : List UInt8} {pos : Nat} (h : byteAt y pos = 32) : (((decL y pos).1 : Int) != (32 : Int)) = false ∧ byteAt y pos < 128 := by
  have : byteAt y pos < 128 := by omega
  rw [decL_low this, h]
  exact ⟨rfl, by omega⟩
theorem r_blank0 {e : Int} {t : List UInt8} {c2 c4 : DCmd} {y : List UInt8} {pos : Nat} (hlt : pos < y.length) (h : byteAt y pos = 32) : rStp (rSt e 0 t c2 c4 y pos) = (.normal, rSt e 1 [] c2 (kUp t c4) y (pos + 1)) := by
  obtain ⟨h1, h2⟩ := blank h
  show rStp ((e, 0, t, ()), c2, c4, (y, pos), ()) = _
  unfold rStp
  simp only
  rw [blt_iff.2 hlt, h1, decN_low hlt h2]
  rfl
theorem r_blank1 {e : Int} {n : Int} {c2 c4 : DCmd} {y : List UInt8} {pos : Nat} (hlt : pos < y.length) (h : byteAt y pos = 32) (h0 : 0 ≤ n) (h16 : n < 16) : rStp (rSt e 1 [letF n] c2 c4 y pos) = (.normal, rSt e 2 [] c2 (c4.1, n, c4.2.2) y (pos + 1)) := by
  obtain ⟨h1, h2⟩ := blank h
  obtain ⟨_, k2, _, _, k5⟩ := one_text h0 h16
  show rStp ((e, 1, [letF n], ()), c2, c4, (y, pos), ()) = _
  unfold rStp
  simp only
  rw [blt_iff.2 hlt, h1, decN_low hlt h2, k2]
  simp only
  rw [k5]
  rfl
theorem r_blank2 {e : Int} {n : Int} {c2 : DCmd} {k nd : Int} {y : List UInt8} {pos : Nat} (hlt : pos < y.length) (h : byteAt y pos = 32) (h0 : 1 ≤ n) (h16 : n ≤ 65536) :
    ∃ e' c2', rStp (rSt e 2 (natT n.toNat) c2 (k, nd, 0) y pos) = (.normal, rSt e' 3 [] c2' (k, nd, n) y (pos + 1)) := by
  obtain ⟨h1, h2⟩ := blank h
  have hg : numGo 1048576 (natT n.toNat) 0 = some n := by
    have := num_digits (top := 1048576) 20 n.toNat (by omega) (by omega) (by omega)
    rw [Int.toNat_of_nonneg (by omega)] at this
    exact this
  have hr := dg_run (y := natT n.toNat) (o := some n) (a := k) (b := nd) _ ((e, ()), c2, (k, nd, 0), (natT n.toNat, 0), ()) ⟨rfl, rfl, rfl, ⟨by simp, by simp⟩, hg⟩ (Nat.lt_succ_self _)
  change dgEnd (some n) k nd (rDg e c2 (k, nd, 0) (natT n.toNat)) at hr
  obtain ⟨r1, r2⟩ := hr
  refine ⟨(rDg e c2 (k, nd, 0) (natT n.toNat)).2.1.1, (rDg e c2 (k, nd, 0) (natT n.toNat)).2.2.1, ?_⟩
  show rStp ((e, 2, natT n.toNat, ()), c2, (k, nd, 0), (y, pos), ()) = _
  unfold rStp
  simp only
  rw [blt_iff.2 hlt, h1, decN_low hlt h2, r1, r2]
  rfl
theorem byte_app {p q : List UInt8} {i : Nat} : byteAt (p ++ q) (p.length + i) = byteAt q i := by
  unfold byteAt
  simp [List.getD_eq_getElem?_getD, List.getElem?_append_right]
theorem byte_cons {b : UInt8} {q : List UInt8} : byteAt (b :: q) 0 = b.toNat := rfl
theorem byte_in {q : List UInt8} {i : Nat} (h : i < q.length) : ∃ b ∈ q, byteAt q i = b.toNat := ⟨q[i], List.getElem_mem h, by unfold byteAt; simp [List.getD, h]⟩
/-- A word behind p is gone through. -/
theorem r_word {e w : Int} {c2 c4 : DCmd} {p a q : List UInt8} (hp : rPre (rSt e w [] c2 c4 (p ++ (a ++ q)) p.length)) (ha : ∀ b ∈ a, b.toNat < 128 ∧ b ≠ 32) :
    rPre (rSt e w a c2 c4 (p ++ (a ++ q)) (p.length + a.length)) ∧ rRun (rSt e w [] c2 c4 (p ++ (a ++ q)) p.length) = rRun (rSt e w a c2 c4 (p ++ (a ++ q)) (p.length + a.length)) := by
  have h := r_seg (e := e) (w := w) (c2 := c2) (c4 := c4) (y := p ++ (a ++ q)) a.length hp (by simp) (fun j h1 h2 => by
    obtain ⟨i, rfl⟩ : ∃ i, j = p.length + i := ⟨j - p.length, by omega⟩
    rw [byte_app]
    have hi : i < a.length := by omega
    have : byteAt (a ++ q) i = byteAt a i := by unfold byteAt; simp [List.getD_eq_getElem?_getD, List.getElem?_append_left hi]
    rw [this]
    obtain ⟨b, hb, hbe⟩ := byte_in hi
    rw [hbe]
    obtain ⟨g1, g2⟩ := ha b hb
    exact ⟨g1, fun hc => g2 (UInt8.toNat_inj.1 hc)⟩)
  rw [List.drop_left' rfl, List.take_left' rfl] at h
  simpa using h
theorem wordK_low {k : Int} (h : k = 1 ∨ k = 2 ∨ k = 3 ∨ k = 4) : (∀ b ∈ wordK k, b.toNat < 128 ∧ b ≠ 32) ∧ kUp (wordK k) (0, 0, 0) = (k, 0, 0) := by
  rcases h with rfl | rfl | rfl | rfl <;> decide +kernel
theorem let_low {n : Int} (h0 : 0 ≤ n) (h1 : n < 16) : ∀ b ∈ [letF n], b.toNat < 128 ∧ b ≠ 32 := by
  intro b hb
  rw [List.mem_singleton] at hb
  subst hb
  refine ⟨?_, (one_text h0 h1).2.2.2.1⟩
  unfold letF
  rw [UInt8.toNat_ofNat']
  omega
theorem dig_low {n : Nat} : ∀ b ∈ natT n, b.toNat < 128 ∧ b ≠ 32 := fun b hb => by
  have := digN_no _ _ b hb
  exact ⟨by omega, fun h => by rw [h] at this; exact absurd this.1 (by decide)⟩
theorem r_over {e w : Int} {t : List UInt8} {c2 c4 : DCmd} {y : List UInt8} : rRun (rSt e w t c2 c4 y y.length) = (.exit 0, rSt e w t c2 c4 y (decN y y.length)) := by
  have h : rStp (rSt e w t c2 c4 y y.length) = (.exit 0, rSt e w t c2 c4 y (decN y y.length)) := by
    show rStp ((e, w, t, ()), c2, c4, (y, y.length), ()) = _
    unfold rStp
    simp only
    rw [blt_no (Nat.lt_irrefl _)]
    rfl
  rw [rr_end (by rw [h]; intro h2; cases h2), h]
/-- A printed command is read as it was. -/
theorem r_print {c : DCmd} (h : crightF c = true) : (rRun (rSt 0 0 [] (0, 0, 0) (0, 0, 0) (cprintT c ++ [32]) 0)).1 = .exit 0 ∧ (rRun (rSt 0 0 [] (0, 0, 0) (0, 0, 0) (cprintT c ++ [32]) 0)).2.2.2.1 = c := by
  obtain ⟨h0, h1, h2⟩ := cright_of h
  have hk : c.1 = 1 ∨ c.1 = 2 ∨ c.1 = 3 ∨ c.1 = 4 := by rcases h2 with h2 | h2 | h2 | h2 <;> omega
  obtain ⟨hk1, hk2⟩ := wordK_low hk
  have hlen := cprint_len h
  have hp0 : rPre (rSt 0 0 [] (0, 0, 0) (0, 0, 0) (cprintT c ++ [32]) 0) := ⟨by simp [rSt]; omega, Nat.zero_le _, Nat.zero_le _, Int.le_refl _, Int.le_refl _, Int.le_refl _, by simp [rSt]⟩
  -- behind the first word and the second
  have two : ∀ q, cprintT c ++ [32] = wordK c.1 ++ (32 :: ([letF c.2.1] ++ (32 :: q))) →
      rPre (rSt 0 2 [] (0, 0, 0) (c.1, c.2.1, 0) (cprintT c ++ [32]) (((wordK c.1 ++ [32]) ++ [letF c.2.1]) ++ [32]).length) ∧
      rRun (rSt 0 0 [] (0, 0, 0) (0, 0, 0) (cprintT c ++ [32]) 0) = rRun (rSt 0 2 [] (0, 0, 0) (c.1, c.2.1, 0) (cprintT c ++ [32]) (((wordK c.1 ++ [32]) ++ [letF c.2.1]) ++ [32]).length) := by
    intro q hy
    generalize cprintT c ++ [32] = y at hp0 hy ⊢
    have y1 : y = [] ++ (wordK c.1 ++ (32 :: ([letF c.2.1] ++ (32 :: q)))) := by rw [hy]; rfl
    have s1 := r_word (e := 0) (w := 0) (c2 := (0, 0, 0)) (c4 := (0, 0, 0)) (p := []) (a := wordK c.1) (q := 32 :: ([letF c.2.1] ++ (32 :: q))) (by rw [← y1]; exact hp0) hk1
    rw [← y1] at s1
    simp only [List.length_nil, Nat.zero_add] at s1
    have b1 : byteAt y (wordK c.1).length = 32 := by
      rw [hy]
      have := byte_app (p := wordK c.1) (q := 32 :: ([letF c.2.1] ++ (32 :: q))) (i := 0)
      rw [Nat.add_zero] at this
      rw [this]
      rfl
    have l1 : (wordK c.1).length < y.length := by rw [hy]; simp
    obtain ⟨g1, g2⟩ := rr_go s1.1 (r_blank0 l1 b1)
    rw [hk2] at g1 g2
    have y2 : y = (wordK c.1 ++ [32]) ++ ([letF c.2.1] ++ (32 :: q)) := by rw [hy]; simp
    have e1 : (wordK c.1 ++ [32]).length = (wordK c.1).length + 1 := by simp
    have s2 := r_word (e := 0) (w := 1) (c2 := (0, 0, 0)) (c4 := (c.1, 0, 0)) (p := wordK c.1 ++ [32]) (a := [letF c.2.1]) (q := 32 :: q) (by rw [← y2, e1]; exact g1) (let_low h0 h1)
    rw [← y2, ← List.length_append, e1] at s2
    have y3 : y = ((wordK c.1 ++ [32]) ++ [letF c.2.1]) ++ (32 :: q) := by rw [hy]; simp
    have b2 : byteAt y ((wordK c.1 ++ [32]) ++ [letF c.2.1]).length = 32 := by
      have := byte_app (p := (wordK c.1 ++ [32]) ++ [letF c.2.1]) (q := 32 :: q) (i := 0)
      rw [Nat.add_zero, ← y3] at this
      rw [this]
      rfl
    have l2 : ((wordK c.1 ++ [32]) ++ [letF c.2.1]).length < y.length := by
      have := congrArg List.length y3
      rw [this]; simp
    obtain ⟨g3, g4⟩ := rr_go s2.1 (r_blank1 l2 b2 h0 h1)
    have e3 : ((wordK c.1 ++ [32]) ++ [letF c.2.1]).length + 1 = (((wordK c.1 ++ [32]) ++ [letF c.2.1]) ++ [32]).length := by simp
    rw [e3] at g3 g4
    exact ⟨g3, s1.2.trans (g2.trans (s2.2.trans g4))⟩
  rcases cprint_parts h with ⟨e, e2⟩ | ⟨e, e2, e3⟩
  · have hy : cprintT c ++ [32] = wordK c.1 ++ (32 :: ([letF c.2.1] ++ (32 :: []))) := by rw [e]; simp
    obtain ⟨g1, g2⟩ := two [] hy
    rw [g2]
    have hl : (((wordK c.1 ++ [32]) ++ [letF c.2.1]) ++ [32]).length = (cprintT c ++ [32]).length := by rw [hy]; simp
    rw [hl, r_over]
    exact ⟨rfl, by show (c.1, c.2.1, (0 : Int)) = c; rw [← e2]⟩
  · have hy : cprintT c ++ [32] = wordK c.1 ++ (32 :: ([letF c.2.1] ++ (32 :: (natT c.2.2.toNat ++ [32])))) := by rw [e]; simp
    obtain ⟨g1, g2⟩ := two _ hy
    rw [g2]
    have hlen2 : (cprintT c ++ [32]).length = (((wordK c.1 ++ [32]) ++ [letF c.2.1]) ++ [32]).length + (natT c.2.2.toNat).length + 1 := by rw [hy]; simp; omega
    generalize cprintT c ++ [32] = y at hy g1 hlen2 ⊢
    have y4 : y = (((wordK c.1 ++ [32]) ++ [letF c.2.1]) ++ [32]) ++ (natT c.2.2.toNat ++ [32]) := by rw [hy]; simp
    have s3 := r_word (e := 0) (w := 2) (c2 := (0, 0, 0)) (c4 := (c.1, c.2.1, 0)) (p := ((wordK c.1 ++ [32]) ++ [letF c.2.1]) ++ [32]) (a := natT c.2.2.toNat) (q := [32]) (by rw [← y4]; exact g1) dig_low
    rw [← y4, ← List.length_append] at s3
    rw [s3.2]
    have y5 : y = ((((wordK c.1 ++ [32]) ++ [letF c.2.1]) ++ [32]) ++ natT c.2.2.toNat) ++ [32] := by rw [hy]; simp
    have b3 : byteAt y ((((wordK c.1 ++ [32]) ++ [letF c.2.1]) ++ [32]) ++ natT c.2.2.toNat).length = 32 := by
      have := byte_app (p := (((wordK c.1 ++ [32]) ++ [letF c.2.1]) ++ [32]) ++ natT c.2.2.toNat) (q := [32]) (i := 0)
      rw [Nat.add_zero, ← y5] at this
      rw [this]
      rfl
    have hl3 : ((((wordK c.1 ++ [32]) ++ [letF c.2.1]) ++ [32]) ++ natT c.2.2.toNat).length = (((wordK c.1 ++ [32]) ++ [letF c.2.1]) ++ [32]).length + (natT c.2.2.toNat).length := List.length_append
    obtain ⟨e', c2', hs⟩ := r_blank2 (e := 0) (c2 := (0, 0, 0)) (k := c.1) (nd := c.2.1) (by rw [hlen2, hl3]; omega) b3 e2 e3
    obtain ⟨g5, g6⟩ := rr_go s3.1 hs
    rw [g6]
    have hl : ((((wordK c.1 ++ [32]) ++ [letF c.2.1]) ++ [32]) ++ natT c.2.2.toNat).length + 1 = y.length := by rw [hlen2, hl3]
    rw [hl, r_over]
    exact ⟨rfl, rfl⟩
/-! Digits -/
theorem digF_nat {n : Int} (h : 0 ≤ n) : digF n = natT n.toNat := by
  unfold digF
  rw [decide_eq_false (by omega)]
  rfl
theorem digs_low {x : Int} (h : x < 10) : bytesToStr [IntKind.wrap IntKind.u8 (IntKind.wrap IntKind.i64 ((48 : Int) + if (0 : Int) < x then x else 0))] = natT x.toNat := by
  by_cases h0 : 0 < x
  · rw [if_pos h0, dig_one (by omega) h, digF_nat (by omega)]
  · rw [if_neg h0, show x.toNat = 0 by omega]
    decide +kernel
theorem digs_quo {x : Int} (h0 : ¬ x < 10) (h1 : x ≤ 9223372036854775807) : IntKind.wrap IntKind.i64 (Int.tdiv x (10 : Int)) = x / 10 := by
  rw [Int.tdiv_eq_ediv_of_nonneg (by omega)]
  exact i64_id (by omega) (by omega)
theorem digs_more {x : Int} (h0 : ¬ x < 10) (h1 : x ≤ 9223372036854775807) : natT (IntKind.wrap IntKind.i64 (Int.tdiv x (10 : Int))).toNat ++ bytesToStr [IntKind.wrap IntKind.u8 (IntKind.wrap IntKind.i64 ((48 : Int) + Int.tmod x (10 : Int)))] = natT x.toNat := by
  have h := dig_more h0 h1
  rw [digF_nat (n := x) (by omega), digF_nat (by rw [digs_quo h0 h1]; omega)] at h
  exact h
/-- What the reading comes to. -/
theorem r_whole {s : List UInt8} (hl : ¬ (s.length : Int) > 40) {r : Ex × RS} (hr : rRun (rSt 0 0 [] (0, 0, 0) (0, 0, 0) (s ++ [32]) 0) = r) :
    (isRet r.1 = true → (r.2.2.1, r.2.1.1) = cparseF s) ∧ (isRet r.1 = false → ((bif (cprintF r.2.2.2.1).2 != (0 : Int) then true else !((cprintF r.2.2.2.1).1 == s)) = true → ((0, 0, 0), 3) = cparseF s) ∧
      ((bif (cprintF r.2.2.2.1).2 != (0 : Int) then true else !((cprintF r.2.2.2.1).1 == s)) = false → (r.2.2.2.1, 0) = cparseF s)) := by
  have hp : rPre (rSt 0 0 [] (0, 0, 0) (0, 0, 0) (s ++ [32]) 0) := ⟨by simp [rSt]; omega, Nat.zero_le _, Nat.zero_le _, Int.le_refl _, Int.le_refl _, Int.le_refl _, by simp [rSt]⟩
  have hret := rr_ret hp
  have hpr : ∀ c, crightF c = true → cprintT c = s → r.1 = .exit 0 ∧ r.2.2.2.1 = c := fun c hc e => by
    have := r_print hc
    rw [e, hr] at this
    exact this
  rw [hr] at hret
  refine ⟨fun h => ?_, fun h => ⟨fun hc => ?_, fun hc => ?_⟩⟩
  · rw [(hret.1 h).1, (hret.1 h).2]
    refine (cparse_none hl fun c hc e => ?_).symm
    rw [(hpr c hc e).1] at h
    cases h
  · refine (cparse_none hl fun c hc2 e => ?_).symm
    rw [(hpr c hc2 e).2] at hc
    unfold cprintF at hc
    rw [hc2, e] at hc
    simp at hc
  · have hcr : crightF r.2.2.2.1 = true := by
      cases hcr : crightF r.2.2.2.1 with
      | true => rfl
      | false =>
        unfold cprintF at hc
        rw [hcr] at hc
        cases hc
    have he : cprintT r.2.2.2.1 = s := by
      unfold cprintF at hc
      rw [hcr] at hc
      simpa using hc
    rw [← he, cparse_print hcr]
end Go.Ev
/- Trees read: told trees come back; what both readings come to. -/
set_option linter.unusedVariables false
set_option linter.unusedSimpArgs false
namespace Go.Ev
theorem letF_nat {n : Int} (h0 : 0 ≤ n) (h1 : n < 16) : ((letF n).toNat : Int) = 97 + n := by
  unfold letF
  rw [UInt8.toNat_ofNat']
  omega
section
variable {s : List UInt8} {e j n : Int} {t2 t4 : List DEnt} {k : Nat}
theorem rt_letter {j0 : Int} (hk : k < s.length) (h0 : 0 ≤ j0) (h1 : j0 < 16) (hb : byteAt s k = (letF j0).toNat) : rtStp (rtSt s e j n 0 (k : Int) t2 t4) = (.normal, rtSt s e j0 0 1 ((k + 1 : Nat) : Int) t2 t4) := by
  have hc := letF_nat h0 h1
  have hA : cA 0 (byteAt s k : Nat) = true := by
    unfold cA
    rw [hb, decide_eq_true (by omega), decide_eq_true (by omega)]
    rfl
  show rtStp ((s, e, j, n, 0, (s.length : Int), (k : Int), ()), t2, t4, ()) = _
  unfold rtStp
  simp only
  rw [decide_eq_true (by omega), Int.toNat_natCast, hA]
  simp only [cond_true]
  rw [hb, hc, show (97 : Int) + j0 - 97 = j0 by omega]
  rfl
theorem cA_no {st c : Int} (h : st ≠ 0) : cA st c = false := by
  unfold cA
  have : (st == (0 : Int)) = false := by simpa using h
  rw [this]
  rfl
theorem rt_digit {st : Int} (hk : k < s.length) (hst : st = 1 ∨ st = 2) (h0 : 48 ≤ byteAt s k) (h1 : byteAt s k ≤ 57) (hn : n ≤ 4294967295) :
    rtStp (rtSt s e j n st (k : Int) t2 t4) = (.normal, rtSt s e j (n * 10 + ((byteAt s k : Int) - 48)) 2 ((k + 1 : Nat) : Int) t2 t4) := by
  have hB : cB st (byteAt s k : Nat) n = true := by
    unfold cB
    rw [decide_eq_true (show st > 0 by omega), decide_eq_true (show st < 3 by omega), decide_eq_true (show ((byteAt s k : Nat) : Int) ≥ 48 by omega), decide_eq_true (show ((byteAt s k : Nat) : Int) ≤ 57 by omega), decide_eq_true (show n < 4294967296 by omega)]
    rfl
  show rtStp ((s, e, j, n, st, (s.length : Int), (k : Int), ()), t2, t4, ()) = _
  unfold rtStp
  simp only
  rw [decide_eq_true (by omega), Int.toNat_natCast, cA_no (by omega), hB]
  rfl
theorem rt_pred {p : Int} (hk : k < s.length) (hp : p = -1 ∨ 0 ≤ p ∧ p < 16) (hb : byteAt s k = (pchar p).toNat) (hn : n < 4294967295) : rtStp (rtSt s e j n 2 (k : Int) t2 t4) = (.normal, rtSt s e j n 3 ((k + 1 : Nat) : Int) t2 (putT t4 j (n, p))) := by
  have hc : ((pchar p).toNat : Int) = bif decide (0 ≤ p) then 97 + p else 46 := by
    unfold pchar
    by_cases h0 : 0 ≤ p
    · rw [decide_eq_true h0]; exact letF_nat h0 (by omega)
    · rw [decide_eq_false h0]; rfl
  have hB : cB 2 (byteAt s k : Nat) n = false := by
    cases h : cB 2 (byteAt s k : Nat) n with
    | false => rfl
    | true =>
      have := cB_in h
      rw [hb, hc] at this
      by_cases h0 : 0 ≤ p
      · rw [decide_eq_true h0] at this; simp only [cond_true] at this; omega
      · rw [decide_eq_false h0] at this; simp only [cond_false] at this; omega
  have hC : cC 2 (byteAt s k : Nat) n = true ∧ (bif ((byteAt s k : Nat) : Int) != (46 : Int) then ((byteAt s k : Nat) : Int) - 97 else -1) = p := by
    unfold cC
    rw [hb, hc, decide_eq_true hn]
    by_cases h0 : 0 ≤ p
    · rw [decide_eq_true h0]
      simp only [cond_true]
      have e1 : (97 + p == (46 : Int)) = false := by simp; omega
      have e2 : (97 + p != (46 : Int)) = true := by simp; omega
      rw [e1, e2, decide_eq_true (show 97 + p ≥ 97 by omega), decide_eq_true (show 97 + p ≤ 112 by omega)]
      exact ⟨rfl, by show 97 + p - 97 = p; omega⟩
    · rw [decide_eq_false h0]
      have : p = -1 := by omega
      subst this
      exact ⟨rfl, rfl⟩
  show rtStp ((s, e, j, n, 2, (s.length : Int), (k : Int), ()), t2, t4, ()) = _
  unfold rtStp
  simp only
  rw [decide_eq_true (by omega), Int.toNat_natCast, cA_no (by omega), hB, hC.1, hC.2]
  rfl
theorem rt_space (hk : k < s.length) (hb : byteAt s k = 32) : rtStp (rtSt s e j n 3 (k : Int) t2 t4) = (.normal, rtSt s e j n 0 ((k + 1 : Nat) : Int) t2 t4) := by
  have hB : cB 3 (byteAt s k : Nat) n = false := rfl
  have hC : cC 3 (byteAt s k : Nat) n = false := rfl
  have hD : cD 3 (byteAt s k : Nat) = true := by rw [hb]; rfl
  show rtStp ((s, e, j, n, 3, (s.length : Int), (k : Int), ()), t2, t4, ()) = _
  unfold rtStp
  simp only
  rw [decide_eq_true (by omega), Int.toNat_natCast, cA_no (by omega), hB, hC, hD]
  rfl
theorem rt_over : rtRun (rtSt s e j n 0 (s.length : Int) t2 t4) = (.exit 0, rtSt s e j n 0 (s.length : Int) t2 t4) := by
  have h : rtStp (rtSt s e j n 0 (s.length : Int) t2 t4) = (.exit 0, rtSt s e j n 0 (s.length : Int) t2 t4) := by
    show rtStp ((s, e, j, n, 0, (s.length : Int), (s.length : Int), ()), t2, t4, ()) = _
    unfold rtStp
    simp only
    rw [decide_eq_false (by omega)]
    rfl
  unfold rtRun
  rw [runF_end (by rw [h]; intro h2; cases h2), h]
theorem rt_digits : ∀ (w p q : List UInt8) {n v st : Int}, s = p ++ (w ++ q) → (st = 1 ∨ st = 2) → numGo 4294967295 w n = some v → rtPre (rtSt s e j n st (p.length : Int) t2 t4) →
    ∃ st', (st' = st ∧ w = [] ∨ st' = 2) ∧ rtPre (rtSt s e j v st' ((p.length + w.length : Nat) : Int) t2 t4) ∧ rtRun (rtSt s e j n st (p.length : Int) t2 t4) = rtRun (rtSt s e j v st' ((p.length + w.length : Nat) : Int) t2 t4)
  | [], p, q, n, v, st, _, _, hg, hp => by
    simp only [numGo, Option.some.injEq] at hg
    subst hg
    exact ⟨st, .inl ⟨rfl, rfl⟩, hp, rfl⟩
  | c :: w, p, q, n, v, st, hs, hst, hg, hp => by
    simp only [numGo] at hg
    cases hc : (bif decide ((c.toNat : Int) < 48) then true else bif decide ((c.toNat : Int) > 57) then true else decide (n > 4294967295)) with
    | true => rw [hc] at hg; cases hg
    | false =>
      rw [hc] at hg
      simp only [cond_false] at hg
      rw [← badD_eq] at hc
      obtain ⟨c1, c2, c3⟩ := badD_no hc
      have hk : p.length < s.length := by rw [hs]; simp
      have hb : byteAt s p.length = c.toNat := by
        rw [hs]
        have := byte_app (p := p) (q := (c :: w) ++ q) (i := 0)
        rw [Nat.add_zero] at this
        rw [this]
        rfl
      have hstep := rt_digit (s := s) (e := e) (j := j) (n := n) (t2 := t2) (t4 := t4) (k := p.length) (st := st) hk hst (by rw [hb]; omega) (by rw [hb]; omega) c3
      rw [hb] at hstep
      obtain ⟨g1, g2⟩ := rtr_go hp hstep
      have hs2 : s = (p ++ [c]) ++ (w ++ q) := by rw [hs]; simp
      have hl : (p ++ [c]).length = p.length + 1 := by simp
      obtain ⟨st', k1, k2, k3⟩ := rt_digits w (p ++ [c]) q hs2 (.inr rfl) hg (by rw [hl]; exact g1)
      rw [hl] at k2 k3
      rw [show p.length + 1 + w.length = p.length + (c :: w).length by simp; omega] at k2 k3
      exact ⟨st', .inr (k1.elim (fun h => h.1) id), k2, g2.trans k3⟩
end
/-- An entry is gone through. -/
theorem rt_entry {t : List DEnt} {s p q : List UInt8} {j e j0 n0 : Int} {t2 t4 : List DEnt} (h0 : 0 ≤ j) (h1 : j < 16) (hg : goodE (entAt t j.toNat)) (hf : (entAt t j.toNat).1 ≠ 4294967295) (hs : s = p ++ (entB t j ++ q)) (hp : rtPre (rtSt s e j0 n0 0 (p.length : Int) t2 t4)) :
    ∃ j1 n1, rtPre (rtSt s e j1 n1 0 ((p ++ entB t j).length : Int) t2 (putT t4 j (entAt t j.toNat))) ∧ rtRun (rtSt s e j0 n0 0 (p.length : Int) t2 t4) = rtRun (rtSt s e j1 n1 0 ((p ++ entB t j).length : Int) t2 (putT t4 j (entAt t j.toNat))) := by
  rw [entB_parts h0 h1 hg] at hs ⊢
  have hnum : numGo 4294967295 (natT (entAt t j.toNat).1.toNat) 0 = some (entAt t j.toNat).1 := by
    have := num_digits (top := 4294967295) 20 (entAt t j.toNat).1.toNat (by have := hg.2; omega) (by omega) (by have := hg.2; omega)
    rw [Int.toNat_of_nonneg hg.2.1] at this
    exact this
  have hne : natT (entAt t j.toNat).1.toNat ≠ [] := digN_ne _ _ (by omega)
  generalize natT (entAt t j.toNat).1.toNat = w at hs hnum hne ⊢
  have hk : p.length < s.length := by rw [hs]; simp
  have hb : byteAt s p.length = (letF j).toNat := by
    rw [hs]
    have := byte_app (p := p) (q := (letF j :: (w ++ [pchar (entAt t j.toNat).2, 32])) ++ q) (i := 0)
    rw [Nat.add_zero] at this
    rw [this]
    rfl
  obtain ⟨g1, g2⟩ := rtr_go hp (rt_letter hk h0 h1 hb)
  have hs2 : s = (p ++ [letF j]) ++ (w ++ (pchar (entAt t j.toNat).2 :: 32 :: q)) := by rw [hs]; simp
  have hl : (p ++ [letF j]).length = p.length + 1 := by simp
  obtain ⟨st', k1, k2, k3⟩ := rt_digits w (p ++ [letF j]) _ hs2 (.inl rfl) hnum (by rw [hl]; exact g1)
  have hst : st' = 2 := k1.elim (fun h => absurd h.2 hne) id
  subst hst
  rw [hl] at k2 k3
  have hs3 : s = ((p ++ [letF j]) ++ w) ++ (pchar (entAt t j.toNat).2 :: 32 :: q) := by rw [hs]; simp
  have hl3 : ((p ++ [letF j]) ++ w).length = p.length + 1 + w.length := by simp; omega
  have hb3 : byteAt s (p.length + 1 + w.length) = (pchar (entAt t j.toNat).2).toNat := by
    have := byte_app (p := (p ++ [letF j]) ++ w) (q := pchar (entAt t j.toNat).2 :: 32 :: q) (i := 0)
    rw [Nat.add_zero, ← hs3, hl3] at this
    rw [this]
    rfl
  have hb4 : byteAt s (p.length + 1 + w.length + 1) = 32 := by
    have := byte_app (p := (p ++ [letF j]) ++ w) (q := pchar (entAt t j.toNat).2 :: 32 :: q) (i := 1)
    rw [← hs3, hl3] at this
    rw [this]
    rfl
  have hslen : s.length = p.length + 1 + w.length + 2 + q.length := by rw [hs]; simp; omega
  have hlt : (entAt t j.toNat).1 < 4294967295 := by have := hg.2.2; omega
  obtain ⟨g3, g4⟩ := rtr_go k2 (rt_pred (by omega) hg.1 hb3 hlt)
  obtain ⟨g5, g6⟩ := rtr_go g3 (rt_space (by omega) hb4)
  have hfin : ((p ++ letF j :: (w ++ [pchar (entAt t j.toNat).2, 32])).length : Int) = ((p.length + 1 + w.length + 1 + 1 : Nat) : Int) := by simp; omega
  rw [hfin]
  exact ⟨_, _, g5, g2.trans (k3.trans (g4.trans g6))⟩
theorem rt_ents {t : List DEnt} {s : List UInt8} {e : Int} {t2 : List DEnt} : ∀ (l : List Int) (p : List UInt8) (j0 n0 : Int) (acc : List DEnt), (∀ j ∈ l, 0 ≤ j ∧ j < 16 ∧ goodE (entAt t j.toNat) ∧ (entAt t j.toNat).1 ≠ 4294967295) → s = p ++ entsB t l → rtPre (rtSt s e j0 n0 0 (p.length : Int) t2 acc) →
    (rtRun (rtSt s e j0 n0 0 (p.length : Int) t2 acc)).1 = .exit 0 ∧ (rtRun (rtSt s e j0 n0 0 (p.length : Int) t2 acc)).2.2.2.1 = l.foldl (fun a j => a.set j.toNat (entAt t j.toNat)) acc
  | [], p, j0, n0, acc, _, hs, hp => by
    have : s.length = p.length := by rw [hs]; simp [entsB]
    rw [← this, rt_over]
    exact ⟨rfl, rfl⟩
  | j :: l, p, j0, n0, acc, hl, hs, hp => by
    obtain ⟨h0, h1, hg, hf⟩ := hl j (by simp)
    rw [ents_cons] at hs
    obtain ⟨j1, n1, k1, k2⟩ := rt_entry h0 h1 hg hf hs hp
    have hs2 : s = (p ++ entB t j) ++ entsB t l := by rw [hs, List.append_assoc]
    have := rt_ents l (p ++ entB t j) j1 n1 _ (fun i hi => hl i (by simp [hi])) hs2 k1
    rw [k2, List.foldl_cons]
    have e : putT acc j (entAt t j.toNat) = acc.set j.toNat (entAt t j.toNat) := by
      unfold putT
      rw [rightF_iff.2 ⟨h0, h1⟩]
      rfl
    rw [e] at this ⊢
    exact this
theorem treeB_len {t : List DEnt} : (treeB t).length ≤ 960 := by
  have h : ∀ l : List Int, (entsB t l).length ≤ 60 * l.length := fun l => by
    induction l with
    | nil => simp [entsB]
    | cons j l ih =>
      rw [ents_cons, List.length_append, List.length_cons]
      have := entB_len t j
      omega
  have h2 := elems_len (reachT t) 16
  have := h (elemsF (reachT t) 16)
  show (entsB t (elemsF (reachT t) 16)).length ≤ 960
  omega
theorem rt_told {t : List DEnt} (h : plainT t) : (rtRun (rtSt (treeB t) 0 0 0 0 0 zeroT farT)).1 = .exit 0 ∧ (rtRun (rtSt (treeB t) 0 0 0 0 0 zeroT farT)).2.2.2.1 = t := by
  have hl := treeB_len (t := t)
  have := rt_ents (t := t) (s := treeB t) (e := 0) (t2 := zeroT) (elemsF (reachT t) 16) [] 0 0 farT (fun j hj => by
    obtain ⟨h0, h1, hg⟩ := reach_in h.1 j hj
    refine ⟨h0, h1, hg, ?_⟩
    have hr := has_reach t h0 h1
    rw [(elem_in (Nat.le_refl 16) hj).2.2] at hr
    have := hr.symm
    simpa using this) rfl ⟨rfl, by show (treeB t).length ≤ 1000; omega, Int.le_refl _, by show (0 : Int) ≤ (treeB t).length; omega, Int.le_refl _, by show (0 : Int) ≤ 42949672969; decide⟩
  refine ⟨this.1, ?_⟩
  exact this.2.trans (plain_fold h)
/-! What both come to -/
def unfarE (e : DEnt) : DEnt := bif decide (e.1 = 4294967295) then (e.1, -1) else e
theorem unfar_cases (e : DEnt) : (e.1 = 4294967295 ∧ unfarE e = (e.1, -1)) ∨ (e.1 ≠ 4294967295 ∧ unfarE e = e) := by
  by_cases h : e.1 = 4294967295
  · left; refine ⟨h, ?_⟩; unfold unfarE; rw [decide_eq_true h]; rfl
  · right; refine ⟨h, ?_⟩; unfold unfarE; rw [decide_eq_false h]; rfl
def unfar (t : List DEnt) : List DEnt := t.map unfarE
theorem unfar_at {t : List DEnt} (ht : t.length = 16) {j : Nat} (hj : j < 16) : entAt (unfar t) j = unfarE (entAt t j) := by
  unfold entAt unfar
  have : j < t.length := by omega
  simp [List.getD, this]
theorem reachK_same {t u : List DEnt} (h : ∀ j, j < 16 → (entAt t j).1 = (entAt u j).1) : ∀ k, k ≤ 16 → ∀ m, reachK t k m = reachK u k m
  | 0, _, _ => rfl
  | k + 1, hk, m => by
    unfold reachK
    rw [h _ (by omega)]
    exact reachK_same h k (by omega) _
theorem unfar_fst {t : List DEnt} (h : goodT t) (j : Nat) (hj : j < 16) : (entAt (unfar t) j).1 = (entAt t j).1 := by
  rw [unfar_at h.1 hj]
  rcases unfar_cases (entAt t j) with ⟨_, e⟩ | ⟨_, e⟩ <;> rw [e]
theorem unfar_reach {t : List DEnt} (h : goodT t) : reachT (unfar t) = reachT t := reachK_same (unfar_fst h) 16 (Nat.le_refl _) 0
theorem unfar_good {t : List DEnt} (h : goodT t) : goodT (unfar t) := by
  refine ⟨by rw [unfar, List.length_map]; exact h.1, fun j hj => ?_⟩
  rw [unfar_at h.1 hj]
  have hg := h.2 j hj
  rcases unfar_cases (entAt t j) with ⟨_, e⟩ | ⟨_, e⟩ <;> rw [e]
  · exact ⟨.inl rfl, hg.2⟩
  · exact hg
theorem unfar_plainE {t : List DEnt} (h : goodT t) (j : Nat) (hj : j < 16) : plainE (entAt (unfar t) j) := by
  rw [unfar_at h.1 hj]
  have hg := h.2 j hj
  rcases unfar_cases (entAt t j) with ⟨_, e⟩ | ⟨hne, e⟩ <;> rw [e]
  · exact .inl rfl
  · exact hg.1.imp id fun hh => ⟨hh.1, hh.2, hne⟩
theorem unfar_ent {t : List DEnt} (h : goodT t) {j : Int} (hj : 0 ≤ j ∧ j < 16 ∧ hasF (reachT t) j = true) : entB (unfar t) j = entB t j := by
  have hr := has_reach t hj.1 hj.2.1
  rw [hj.2.2] at hr
  have hne : (entAt t j.toNat).1 ≠ 4294967295 := fun he => by rw [he] at hr; cases hr
  have e : entAt (unfar t) j.toNat = entAt t j.toNat := by
    have h0 := hj.1
    have h1 := hj.2.1
    rw [unfar_at h.1 (by omega)]
    rcases unfar_cases (entAt t j.toNat) with ⟨he, e⟩ | ⟨_, e⟩
    · exact absurd he hne
    · exact e
  unfold entB
  rw [e]
theorem flat_same {f g : Int → List UInt8} : ∀ l : List Int, (∀ j ∈ l, f j = g j) → l.flatMap f = l.flatMap g
  | [], _ => rfl
  | j :: l, hl => by
    rw [List.flatMap_cons, List.flatMap_cons, flat_same l (fun i hi => hl i (by simp [hi])), hl j (by simp)]
theorem unfar_tree {t : List DEnt} (h : goodT t) : treeB (unfar t) = treeB t := by
  unfold treeB
  rw [unfar_reach h]
  exact flat_same _ fun j hj => unfar_ent h (elem_in (Nat.le_refl 16) hj)
theorem unfar_plain {t : List DEnt} (h : goodT t) : plainT (unfar t) ∧ treeB (unfar t) = treeB t := ⟨⟨unfar_good h, unfar_plainE h⟩, unfar_tree h⟩
open Classical in
/-- The tree that a text tells of. -/
noncomputable def tparseF (s : List UInt8) : List DEnt × Int :=
  if (s.length : Int) > 300 then (zeroT, 4) else if h : ∃ t, plainT t ∧ treeB t = s then (h.choose, 0) else (zeroT, 3)
theorem tparse_long {s : List UInt8} (h : (s.length : Int) > 300) : tparseF s = (zeroT, 4) := by unfold tparseF; rw [if_pos h]
theorem tell_one {t u : List DEnt} (ht : plainT t) (hu : plainT u) (h : treeB t = treeB u) : t = u := by
  have h1 := (tp_told ht).2
  rw [h] at h1
  exact h1.symm.trans (tp_told hu).2
theorem tparse_told {t : List DEnt} (ht : plainT t) (hl : ¬ ((treeB t).length : Int) > 300) : tparseF (treeB t) = (t, 0) := by
  unfold tparseF
  have hx : ∃ u, plainT u ∧ treeB u = treeB t := ⟨t, ht, rfl⟩
  rw [if_neg hl, dif_pos hx]
  have h2 := hx.choose_spec
  rw [tell_one h2.1 ht h2.2]
theorem tparse_none {s : List UInt8} (hl : ¬ (s.length : Int) > 300) (h : ∀ t, plainT t → treeB t ≠ s) : tparseF s = (zeroT, 3) := by
  unfold tparseF
  rw [if_neg hl, dif_neg (fun ⟨t, h1, h2⟩ => h t h1 h2)]
theorem tparse_ok {s : List UInt8} (h : ((tparseF s).2 == (0 : Int)) = true) : plainT (tparseF s).1 ∧ treeB (tparseF s).1 = s := by
  unfold tparseF at h ⊢
  split
  · rename_i hl; rw [if_pos hl] at h; cases h
  · rename_i hl
    rw [if_neg hl] at h
    split
    · rename_i hx; exact hx.choose_spec
    · rename_i hx; rw [dif_neg hx] at h; cases h
theorem t_whole {s : List UInt8} (hl : ¬ (s.length : Int) > 300) {ret : Bool} {t2 t4 : List DEnt} {e : Int} (told : ∀ t, plainT t → treeB t = s → ret = false ∧ t4 = t) (hr : ret = true → t2 = zeroT ∧ e = 3) (hg : goodT t4) :
    (ret = true → (t2, e) = tparseF s) ∧ (ret = false → ((!(treeB t4 == s)) = true → (zeroT, 3) = tparseF s) ∧ ((!(treeB t4 == s)) = false → (t4, 0) = tparseF s)) := by
  refine ⟨fun h => ?_, fun h => ⟨fun hc => ?_, fun hc => ?_⟩⟩
  · rw [(hr h).1, (hr h).2]
    refine (tparse_none hl fun t ht e => ?_).symm
    rw [(told t ht e).1] at h
    cases h
  · refine (tparse_none hl fun t ht e => ?_).symm
    rw [(told t ht e).2, e] at hc
    simp at hc
  · have he : treeB t4 = s := by simpa using hc
    obtain ⟨u1, u2⟩ := unfar_plain hg
    have := (told _ u1 (u2.trans he)).2
    have hp : plainT t4 := by rw [this]; exact u1
    rw [← he]
    rw [← he] at hl
    exact (tparse_told hp hl).symm
end Go.Ev
