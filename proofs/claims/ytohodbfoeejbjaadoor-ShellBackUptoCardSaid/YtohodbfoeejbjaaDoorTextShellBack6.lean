/- Commands as texts, in plain Lean. -/
import Derived.Lib.TrailingZeros
import Derived.Test.YtohodbfoeejbjaaDoorTextShellBack5

set_option linter.unusedVariables false
set_option linter.unusedSimpArgs false
namespace Go.Ev
abbrev gCmd : GTy := .prod (.int .i64) (.prod (.int .i64) (.int .i64))
abbrev DCmd := Int × Int × Int
def crightF (c : DCmd) : Bool := bif !rightF c.2.1 then false else bif c.1 == (1 : Int) then withinF c.2.2 1 65536 else bif c.1 == (3 : Int) then withinF c.2.2 1 64 else bif (bif c.1 == (2 : Int) then c.1 == (2 : Int) else c.1 == (4 : Int)) then c.2.2 == (0 : Int) else false
def wordK (k : Int) : List UInt8 := bif k == (1 : Int) then [108, 105, 110, 107] else bif k == (2 : Int) then [99, 117, 116] else bif k == (3 : Int) then [115, 101, 110, 100] else bif k == (4 : Int) then [115, 104, 111, 119] else []
def cprintT (c : DCmd) : List UInt8 := bif decide (c.2.2 > (0 : Int)) then ((wordK c.1 ++ [32]) ++ textN (withF 0 c.2.1)) ++ ([32] ++ itoaF c.2.2) else (wordK c.1 ++ [32]) ++ textN (withF 0 c.2.1)
def cprintF (c : DCmd) : List UInt8 × Int := bif !crightF c then ([], 1) else (cprintT c, 0)
/-- Sets of nodes out of texts. -/
def npGo : List UInt8 → Int → Int → Option Int
  | [], s, _ => some s
  | b :: l, s, last => bif (bif decide ((b.toNat : Int) ≤ last) then true else decide ((b.toNat : Int) > 112)) then none else npGo l (withF s ((b.toNat : Int) - 97)) (b.toNat : Int)
def nparseF (s : List UInt8) : Int × Int := bif s == [46] then (0, 0) else match npGo s 0 96 with
  | none => (0, 3)
  | some v => bif v == 0 then (0, 3) else (v, 0)
/-- A number out of digits. -/
def numGo (top : Int) : List UInt8 → Int → Option Int
  | [], n => some n
  | b :: l, n => bif (bif decide ((b.toNat : Int) < 48) then true else bif decide ((b.toNat : Int) > 57) then true else decide (n > top)) then none else numGo top l (n * 10 + ((b.toNat : Int) - 48))
def numberF (s : List UInt8) : Int := match numGo 65536 s 0 with
  | none => -1
  | some n => bif s == [] then -1 else n
/-- A text's words. -/
def wordsGo : List UInt8 → List UInt8 → List (List UInt8)
  | [], cur => [cur]
  | b :: l, cur => bif b == 32 then cur :: wordsGo l [] else wordsGo l (cur ++ [b])
def wordsF (s : List UInt8) : List (List UInt8) := wordsGo s []
def kindF (w : List UInt8) : Int := bif wordK 4 == w then 4 else bif wordK 3 == w then 3 else bif wordK 2 == w then 2 else bif wordK 1 == w then 1 else 0
def lowestF (s : Int) : Int := match elemsF s 16 with
  | [] => -1
  | j :: _ => j
def cparseC (w : List (List UInt8)) : DCmd := (kindF (w.getD 0 []), lowestF (nparseF (w.getD 1 [])).1, bif (w.length : Int) == (3 : Int) then numberF (w.getD 2 []) else 0)
def cparseF (s : List UInt8) : DCmd × Int := bif decide ((s.length : Int) > 40) then ((0, 0, 0), 4) else
  bif (bif decide (((wordsF s).length : Int) < 2) then true else decide (((wordsF s).length : Int) > 3)) then ((0, 0, 0), 3) else
  bif (nparseF ((wordsF s).getD 1 [])).2 != (0 : Int) then ((0, 0, 0), 3) else
  bif (bif (cprintF (cparseC (wordsF s))).2 != (0 : Int) then true else !((cprintF (cparseC (wordsF s))).1 == s)) then ((0, 0, 0), 3) else (cparseC (wordsF s), 0)
/-! What is printed is parsed. -/
theorem words_end : ∀ (a cur : List UInt8), (∀ b ∈ a, b ≠ 32) → wordsGo a cur = [cur ++ a]
  | [], cur, _ => by simp [wordsGo]
  | b :: a, cur, h => by
    have hb : (b == 32) = false := by simpa using h b (by simp)
    rw [wordsGo, hb]
    show wordsGo a (cur ++ [b]) = _
    rw [words_end a (cur ++ [b]) (fun x hx => h x (by simp [hx])), List.append_assoc]
    rfl
theorem words_cons : ∀ (a cur l : List UInt8), (∀ b ∈ a, b ≠ 32) → wordsGo (a ++ 32 :: l) cur = (cur ++ a) :: wordsGo l []
  | [], cur, l, _ => by simp [wordsGo]
  | b :: a, cur, l, h => by
    have hb : (b == 32) = false := by simpa using h b (by simp)
    rw [List.cons_append, wordsGo, hb]
    show wordsGo (a ++ 32 :: l) (cur ++ [b]) = _
    rw [words_cons a (cur ++ [b]) l (fun x hx => h x (by simp [hx])), List.append_assoc]
    rfl
theorem node_cases {p : Int → Prop} {n : Int} (h0 : 0 ≤ n) (h1 : n < 16) (h : p 0 ∧ p 1 ∧ p 2 ∧ p 3 ∧ p 4 ∧ p 5 ∧ p 6 ∧ p 7 ∧ p 8 ∧ p 9 ∧ p 10 ∧ p 11 ∧ p 12 ∧ p 13 ∧ p 14 ∧ p 15) : p n := by
  obtain ⟨a0, a1, a2, a3, a4, a5, a6, a7, a8, a9, a10, a11, a12, a13, a14, a15⟩ := h
  have : n = 0 ∨ n = 1 ∨ n = 2 ∨ n = 3 ∨ n = 4 ∨ n = 5 ∨ n = 6 ∨ n = 7 ∨ n = 8 ∨ n = 9 ∨ n = 10 ∨ n = 11 ∨ n = 12 ∨ n = 13 ∨ n = 14 ∨ n = 15 := by omega
  rcases this with rfl | rfl | rfl | rfl | rfl | rfl | rfl | rfl | rfl | rfl | rfl | rfl | rfl | rfl | rfl | rfl <;> assumption
theorem one_text {n : Int} (h0 : 0 ≤ n) (h1 : n < 16) : textN (withF 0 n) = [letF n] ∧ nparseF [letF n] = (withF 0 n, 0) ∧ lowestF (withF 0 n) = n ∧ letF n ≠ 32 ∧ elemsF (withF 0 n) 16 = [n] :=
  node_cases (p := fun n => textN (withF 0 n) = [letF n] ∧ nparseF [letF n] = (withF 0 n, 0) ∧ lowestF (withF 0 n) = n ∧ letF n ≠ 32 ∧ elemsF (withF 0 n) 16 = [n]) h0 h1 (by refine ⟨?_, ?_, ?_, ?_, ?_, ?_, ?_, ?_, ?_, ?_, ?_, ?_, ?_, ?_, ?_, ?_⟩ <;> decide +kernel)
theorem num_more {top : Int} : ∀ (l : List UInt8) (n : Int) (b : UInt8), numGo top (l ++ [b]) n = match numGo top l n with
    | none => none
    | some m => bif (bif decide ((b.toNat : Int) < 48) then true else bif decide ((b.toNat : Int) > 57) then true else decide (m > top)) then none else some (m * 10 + ((b.toNat : Int) - 48))
  | [], n, b => by simp only [List.nil_append, numGo]
  | c :: l, n, b => by
    rw [List.cons_append, numGo, numGo]
    cases (bif decide ((c.toNat : Int) < 48) then true else bif decide ((c.toNat : Int) > 57) then true else decide (n > top)) with
    | true => rfl
    | false => exact num_more l _ b
theorem dig_toNat {d : Nat} (h : d < 10) : (UInt8.ofNat (48 + d)).toNat = 48 + d := by
  rw [UInt8.toNat_ofNat']; omega
theorem num_digits {top : Int} : ∀ (f n : Nat), n < 10 ^ f → 0 < f → ((n / 10 : Nat) : Int) ≤ top → numGo top (digN f n) 0 = some (n : Int)
  | 0, _, _, h, _ => absurd h (by omega)
  | f + 1, n, h, _, ht => by
    unfold digN
    by_cases h10 : n < 10
    · rw [show Nat.blt n 10 = true by rw [Nat.blt_eq]; exact h10]
      simp only [cond_true, numGo]
      rw [dig_toNat h10]
      have h0 : 0 ≤ top := by omega
      rw [decide_eq_false (by omega), decide_eq_false (by omega), decide_eq_false (by omega)]
      simp only [cond_false]
      congr 1
      omega
    · rw [show Nat.blt n 10 = false by
        cases hb : Nat.blt n 10 with
        | false => rfl
        | true => exact absurd (by rw [Nat.blt_eq] at hb; exact hb) h10]
      have hf : 0 < f := by
        rcases Nat.eq_zero_or_pos f with h0 | h0
        · subst h0; omega
        · exact h0
      have hd : n / 10 < 10 ^ f := by rw [Nat.pow_succ] at h; omega
      simp only [cond_false]
      rw [num_more, num_digits f (n / 10) hd hf (by omega)]
      simp only
      rw [dig_toNat (Nat.mod_lt _ (by omega))]
      have := Nat.mod_lt n (show 0 < 10 by omega)
      rw [decide_eq_false (by omega), decide_eq_false (by omega), decide_eq_false (by omega)]
      simp only [cond_false]
      congr 1
      omega
theorem digN_no : ∀ (f n : Nat), ∀ b ∈ digN f n, 48 ≤ b.toNat ∧ b.toNat ≤ 57
  | 0, _, b, h => by cases h
  | f + 1, n, b, h => by
    unfold digN at h
    cases hb : Nat.blt n 10 with
    | true =>
      rw [hb] at h
      have h10 : n < 10 := by rw [Nat.blt_eq] at hb; exact hb
      simp only [cond_true, List.mem_singleton] at h
      rw [h, dig_toNat h10]; omega
    | false =>
      rw [hb] at h
      simp only [cond_false, List.mem_append, List.mem_singleton] at h
      rcases h with h | h
      · exact digN_no f _ b h
      · have := Nat.mod_lt n (show 0 < 10 by omega)
        rw [h, dig_toNat this]; omega
theorem digN_ne : ∀ (f n : Nat), 0 < f → digN f n ≠ []
  | 0, _, h => absurd h (by omega)
  | f + 1, n, _ => by
    unfold digN
    cases Nat.blt n 10 <;> simp
theorem digN_short : ∀ (f n k : Nat), n < 10 ^ k → 0 < k → (digN f n).length ≤ k
  | 0, _, _, _, _ => by simp [digN]
  | f + 1, n, k, h, hk => by
    unfold digN
    cases hb : Nat.blt n 10 with
    | true => simp; omega
    | false =>
      have h10 : ¬ n < 10 := by rw [← Nat.blt_eq, hb]; simp
      obtain ⟨j, rfl⟩ : ∃ j, k = j + 1 := ⟨k - 1, by omega⟩
      have hj : 0 < j := by
        rcases Nat.eq_zero_or_pos j with h0 | h0
        · subst h0; omega
        · exact h0
      have hd : n / 10 < 10 ^ j := by rw [Nat.pow_succ] at h; omega
      have := digN_short f (n / 10) j hd hj
      simp only [cond_false, List.length_append, List.length_cons, List.length_nil]
      omega
theorem within_iff' {n a b : Int} : withinF n a b = true ↔ a ≤ n ∧ n ≤ b := by
  unfold withinF
  by_cases h : n ≥ a
  · rw [decide_eq_true h]
    show decide (n ≤ b) = true ↔ _
    rw [decide_eq_true_eq]
    exact ⟨fun h2 => ⟨h, h2⟩, fun h2 => h2.2⟩
  · rw [decide_eq_false h]
    exact ⟨(fun h2 => by cases h2), fun h2 => absurd h2.1 h⟩
theorem wordK_len (k : Int) : (wordK k).length ≤ 4 := by
  unfold wordK
  cases k == (1 : Int) <;> cases k == (2 : Int) <;> cases k == (3 : Int) <;> cases k == (4 : Int) <;> decide
theorem cright_of {c : DCmd} (h : crightF c = true) : 0 ≤ c.2.1 ∧ c.2.1 < 16 ∧ (c.1 = 1 ∧ 1 ≤ c.2.2 ∧ c.2.2 ≤ 65536 ∨ c.1 = 2 ∧ c.2.2 = 0 ∨ c.1 = 3 ∧ 1 ≤ c.2.2 ∧ c.2.2 ≤ 64 ∨ c.1 = 4 ∧ c.2.2 = 0) := by
  unfold crightF at h
  cases hr : rightF c.2.1 with
  | false => rw [hr] at h; cases h
  | true =>
    have hr' := rightF_iff.1 hr
    rw [hr] at h
    refine ⟨hr'.1, hr'.2, ?_⟩
    simp only [Bool.not_true, cond_false] at h
    by_cases h1 : c.1 = 1
    · have e : (c.1 == (1 : Int)) = true := by simpa using h1
      rw [e] at h
      simp only [cond_true] at h
      have := within_iff'.1 h
      exact .inl ⟨h1, this.1, this.2⟩
    · have e : (c.1 == (1 : Int)) = false := by simpa using h1
      rw [e] at h
      simp only [cond_false] at h
      by_cases h3 : c.1 = 3
      · have e : (c.1 == (3 : Int)) = true := by simpa using h3
        rw [e] at h
        simp only [cond_true] at h
        have := within_iff'.1 h
        exact .inr (.inr (.inl ⟨h3, this.1, this.2⟩))
      · have e : (c.1 == (3 : Int)) = false := by simpa using h3
        rw [e] at h
        simp only [cond_false] at h
        by_cases h2 : c.1 = 2
        · have e : (c.1 == (2 : Int)) = true := by simpa using h2
          rw [e] at h
          simp only [cond_true, beq_iff_eq] at h
          exact .inr (.inl ⟨h2, h⟩)
        · have e : (c.1 == (2 : Int)) = false := by simpa using h2
          rw [e] at h
          simp only [cond_false] at h
          by_cases h4 : c.1 = 4
          · have e : (c.1 == (4 : Int)) = true := by simpa using h4
            rw [e] at h
            simp only [cond_true, beq_iff_eq] at h
            exact .inr (.inr (.inr ⟨h4, h⟩))
          · have e : (c.1 == (4 : Int)) = false := by simpa using h4
            rw [e] at h
            cases h
/-- A right command's parts as it is printed. -/
theorem cprint_parts {c : DCmd} (h : crightF c = true) : cprintT c = wordK c.1 ++ 32 :: [letF c.2.1] ∧ c.2.2 = 0 ∨ cprintT c = wordK c.1 ++ 32 :: ([letF c.2.1] ++ 32 :: natT c.2.2.toNat) ∧ 1 ≤ c.2.2 ∧ c.2.2 ≤ 65536 := by
  obtain ⟨h0, h1, h2⟩ := cright_of h
  have ht := (one_text h0 h1).1
  unfold cprintT
  rw [ht]
  by_cases hn : c.2.2 > 0
  · right
    rw [decide_eq_true hn]
    have e : itoaF c.2.2 = natT c.2.2.toNat := by
      unfold itoaF
      rw [decide_eq_false (by omega)]
      rfl
    rw [e]
    refine ⟨by simp, by omega, ?_⟩
    rcases h2 with h2 | h2 | h2 | h2 <;> omega
  · left
    rw [decide_eq_false hn]
    refine ⟨by simp, ?_⟩
    rcases h2 with h2 | h2 | h2 | h2 <;> omega
theorem wordK_no {k : Int} (h : k = 1 ∨ k = 2 ∨ k = 3 ∨ k = 4) : (∀ b ∈ wordK k, b ≠ 32) ∧ kindF (wordK k) = k ∧ (wordK k).length ≤ 4 ∧ wordK k ≠ [] := by
  rcases h with rfl | rfl | rfl | rfl <;> decide +kernel
theorem cprint_words {c : DCmd} (h : crightF c = true) : wordsF (cprintT c) = [wordK c.1, [letF c.2.1]] ∧ c.2.2 = 0 ∨ wordsF (cprintT c) = [wordK c.1, [letF c.2.1], natT c.2.2.toNat] ∧ 1 ≤ c.2.2 ∧ c.2.2 ≤ 65536 := by
  obtain ⟨h0, h1, h2⟩ := cright_of h
  have hk := (wordK_no (k := c.1) (by rcases h2 with h2 | h2 | h2 | h2 <;> omega)).1
  have hl := (one_text h0 h1).2.2.2.1
  have hl' : ∀ b ∈ [letF c.2.1], b ≠ 32 := by simpa using hl
  rcases cprint_parts h with ⟨e, e2⟩ | ⟨e, e2⟩
  · left
    refine ⟨?_, e2⟩
    rw [e]
    unfold wordsF
    rw [words_cons _ _ _ hk, words_end _ _ hl']
    rfl
  · right
    refine ⟨?_, e2⟩
    rw [e]
    unfold wordsF
    rw [words_cons _ _ _ hk, words_cons _ _ _ hl', words_end _ _ (fun b hb => by
      have := digN_no _ _ b hb
      rintro rfl
      exact absurd this.1 (by decide))]
    rfl
theorem number_nat {n : Int} (h0 : 1 ≤ n) (h1 : n ≤ 65536) : numberF (natT n.toNat) = n := by
  unfold numberF natT
  rw [num_digits 20 n.toNat (by omega) (by omega) (by omega)]
  have : digN 20 n.toNat ≠ [] := digN_ne _ _ (by omega)
  have e : (digN 20 n.toNat == []) = false := by simpa using this
  rw [e]
  simp only [cond_false]
  omega
theorem cprint_len {c : DCmd} (h : crightF c = true) : (cprintT c).length ≤ 20 := by
  obtain ⟨h0, h1, h2⟩ := cright_of h
  have hk := (wordK_no (k := c.1) (by rcases h2 with h2 | h2 | h2 | h2 <;> omega)).2.2.1
  rcases cprint_parts h with ⟨e, e2⟩ | ⟨e, e2, e3⟩
  · rw [e]; simp; omega
  · have := digN_short 20 c.2.2.toNat 6 (by omega) (by omega)
    rw [e]; unfold natT; simp; omega
theorem cparse_print {c : DCmd} (h : crightF c = true) : cparseF (cprintT c) = (c, 0) := by
  obtain ⟨h0, h1, h2⟩ := cright_of h
  have hk := wordK_no (k := c.1) (by rcases h2 with h2 | h2 | h2 | h2 <;> omega)
  have hone := one_text h0 h1
  have hlen := cprint_len h
  have hc : cparseC (wordsF (cprintT c)) = c ∧ (wordsF (cprintT c)).length ≤ 3 ∧ 2 ≤ (wordsF (cprintT c)).length ∧ (wordsF (cprintT c)).getD 1 [] = [letF c.2.1] := by
    rcases cprint_words h with ⟨e, e2⟩ | ⟨e, e2, e3⟩
    · rw [e]
      refine ⟨?_, by simp, by simp, rfl⟩
      show (kindF (wordK c.1), lowestF (nparseF [letF c.2.1]).1, (0 : Int)) = c
      rw [hk.2.1, hone.2.1, hone.2.2.1, ← e2]
    · rw [e]
      refine ⟨?_, by simp, by simp, rfl⟩
      show (kindF (wordK c.1), lowestF (nparseF [letF c.2.1]).1, numberF (natT c.2.2.toNat)) = c
      rw [hk.2.1, hone.2.1, hone.2.2.1, number_nat e2 e3]
  obtain ⟨hc1, hc2, hc3, hc4⟩ := hc
  unfold cparseF
  rw [decide_eq_false (by omega), decide_eq_false (by omega), decide_eq_false (by omega), hc4, hone.2.1, hc1]
  have e : cprintF c = (cprintT c, 0) := by unfold cprintF; rw [h]; rfl
  rw [e]
  simp
theorem cparse_back {s : List UInt8} (h : ((cparseF s).2 == (0 : Int)) = true) : crightF (cparseF s).1 = true ∧ cprintT (cparseF s).1 = s := by
  unfold cparseF at h ⊢
  cases h1 : decide ((s.length : Int) > 40) with
  | true => rw [h1] at h; cases h
  | false =>
    rw [h1] at h
    simp only [cond_false] at h ⊢
    cases h2 : (bif decide (((wordsF s).length : Int) < 2) then true else decide (((wordsF s).length : Int) > 3)) with
    | true => rw [h2] at h; cases h
    | false =>
      rw [h2] at h
      simp only [cond_false] at h ⊢
      cases h3 : (nparseF ((wordsF s).getD 1 [])).2 != (0 : Int) with
      | true => rw [h3] at h; cases h
      | false =>
        rw [h3] at h
        simp only [cond_false] at h ⊢
        cases h4 : (bif (cprintF (cparseC (wordsF s))).2 != (0 : Int) then true else !((cprintF (cparseC (wordsF s))).1 == s)) with
        | true => rw [h4] at h; cases h
        | false =>
          simp only [cond_false]
          have hr : crightF (cparseC (wordsF s)) = true := by
            cases hr : crightF (cparseC (wordsF s)) with
            | true => rfl
            | false =>
              unfold cprintF at h4
              rw [hr] at h4
              cases h4
          refine ⟨hr, ?_⟩
          unfold cprintF at h4
          rw [hr] at h4
          simpa using h4
/-- What is no command's text is refused. -/
theorem cparse_none {s : List UInt8} (hl : ¬ (s.length : Int) > 40) (h : ∀ c, crightF c = true → cprintT c ≠ s) : cparseF s = ((0, 0, 0), 3) := by
  cases he : (cparseF s).2 == (0 : Int) with
  | true => exact absurd (cparse_back he).2 (h _ (cparse_back he).1)
  | false =>
    unfold cparseF at he ⊢
    rw [decide_eq_false hl] at he ⊢
    simp only [cond_false] at he ⊢
    cases h2 : (bif decide (((wordsF s).length : Int) < 2) then true else decide (((wordsF s).length : Int) > 3)) with
    | true => rfl
    | false =>
      rw [h2] at he
      simp only [cond_false] at he ⊢
      cases h3 : (nparseF ((wordsF s).getD 1 [])).2 != (0 : Int) with
      | true => rfl
      | false =>
        rw [h3] at he
        simp only [cond_false] at he ⊢
        cases h4 : (bif (cprintF (cparseC (wordsF s))).2 != (0 : Int) then true else !((cprintF (cparseC (wordsF s))).1 == s)) with
        | true => rfl
        | false => rw [h4] at he; cases he
theorem cparse_long {s : List UInt8} (hl : (s.length : Int) > 40) : cparseF s = ((0, 0, 0), 4) := by
  unfold cparseF
  rw [decide_eq_true hl]
  rfl
theorem cparse_zero {s : List UInt8} (h : ((cparseF s).2 != (0 : Int)) = true) : (cparseF s).1 = (0, 0, 0) := by
  unfold cparseF at h ⊢
  cases h1 : decide ((s.length : Int) > 40) with
  | true => rfl
  | false =>
    rw [h1] at h
    simp only [cond_false] at h ⊢
    cases h2 : (bif decide (((wordsF s).length : Int) < 2) then true else decide (((wordsF s).length : Int) > 3)) with
    | true => rfl
    | false =>
      rw [h2] at h
      simp only [cond_false] at h ⊢
      cases h3 : (nparseF ((wordsF s).getD 1 [])).2 != (0 : Int) with
      | true => rfl
      | false =>
        rw [h3] at h
        simp only [cond_false] at h ⊢
        cases h4 : (bif (cprintF (cparseC (wordsF s))).2 != (0 : Int) then true else !((cprintF (cparseC (wordsF s))).1 == s)) with
        | true => rfl
        | false => rw [h4] at h; cases h
theorem cprint_good {c : DCmd} (h : ((cprintF c).2 == (0 : Int)) = true) : crightF c = true := by
  unfold cprintF at h
  cases hr : crightF c with
  | true => rfl
  | false => rw [hr] at h; cases h
end Go.Ev
/- The least node of a set; sets of nodes out of texts, round by round. -/
set_option linter.unusedVariables false
set_option linter.unusedSimpArgs false
namespace Go.Ev
abbrev NpS := (Int × Int × Int × Int × Unit) × (List UInt8 × Nat) × Unit
def npStp (x : NpS) : Ex × NpS :=
  bif Nat.blt x.2.1.2 x.2.1.1.length then
    bif (bif decide (((decL x.2.1.1 x.2.1.2).1 : Int) ≤ x.1.2.2.2.1) then true else decide (((decL x.2.1.1 x.2.1.2).1 : Int) > 112)) then (.ret, ((0, 3, x.1.2.2.1, x.1.2.2.2.1, ()), (x.2.1.1, decN x.2.1.1 x.2.1.2), ()))
    else (.normal, ((x.1.1, x.1.2.1, withF x.1.2.2.1 (((decL x.2.1.1 x.2.1.2).1 : Int) - 97), ((decL x.2.1.1 x.2.1.2).1 : Int), ()), (x.2.1.1, decN x.2.1.1 x.2.1.2), ()))
  else (.exit 0, (x.1, (x.2.1.1, decN x.2.1.1 x.2.1.2), ()))
def npMu (x : NpS) : Nat := x.2.1.1.length - x.2.1.2
theorem blt_iff {a b : Nat} : Nat.blt a b = true ↔ a < b := by rw [Nat.blt_eq]
theorem blt_no {a b : Nat} (h : ¬ a < b) : Nat.blt a b = false := by
  cases hb : Nat.blt a b with
  | false => rfl
  | true => exact absurd (blt_iff.1 hb) h
theorem decN_go {y : List UInt8} {pos : Nat} (h : pos < y.length) : decN y pos = pos + (decL y pos).2 := by unfold decN; rw [blt_iff.2 h]; rfl
theorem decN_low {y : List UInt8} {pos : Nat} (h : pos < y.length) (hb : byteAt y pos < 128) : decN y pos = pos + 1 := by rw [decN_go h, decL_low hb]
theorem decN_lt {y : List UInt8} {pos : Nat} (h : Nat.blt pos y.length = true) : y.length - decN y pos < y.length - pos := by
  have h' := blt_iff.1 h
  have := decL_pos y pos
  rw [decN_go h']
  omega
theorem npStp_ends (x : NpS) : (npStp x).1 = .normal ∨ (npStp x).1 = .exit 0 ∨ (npStp x).1 = .ret := by
  unfold npStp
  cases Nat.blt x.2.1.2 x.2.1.1.length with
  | false => exact .inr (.inl rfl)
  | true => cases (bif decide (((decL x.2.1.1 x.2.1.2).1 : Int) ≤ x.1.2.2.2.1) then true else decide (((decL x.2.1.1 x.2.1.2).1 : Int) > 112)) with
    | true => exact .inr (.inr rfl)
    | false => exact .inl rfl
theorem np_mu {x : NpS} (h : (npStp x).1 = .normal) : npMu (npStp x).2 < npMu x := by
  unfold npStp at h ⊢
  cases hb : Nat.blt x.2.1.2 x.2.1.1.length with
  | false => rw [hb] at h; cases h
  | true =>
    rw [hb] at h
    cases hc : (bif decide (((decL x.2.1.1 x.2.1.2).1 : Int) ≤ x.1.2.2.2.1) then true else decide (((decL x.2.1.1 x.2.1.2).1 : Int) > 112)) with
    | true => rw [hc] at h; cases h
    | false => exact decN_lt hb
/-- What comes of it. -/
def npEnd (o : Option Int) (p : Ex × NpS) : Prop := match o with
  | none => p.1 = .ret ∧ p.2.1.1 = 0 ∧ p.2.1.2.1 = 3
  | some v => p.1 = .exit 0 ∧ p.2.1.2.2.1 = v
theorem np_run {y : List UInt8} {o : Option Int} : ∀ (n : Nat) (x : NpS), (x.2.1.1 = y ∧ npGo (y.drop x.2.1.2) x.1.2.2.1 x.1.2.2.2.1 = o) → npMu x < n → npEnd o (runF npStp n x) :=
  runF_inv fun x hx => by
    refine ⟨fun hn => ⟨?_, np_mu hn⟩, fun hn => ?_⟩
    · obtain ⟨⟨a, b, s, l, ⟨⟩⟩, ⟨y', pos⟩, ⟨⟩⟩ := x
      obtain ⟨h1, h2⟩ := hx
      simp only at h1 h2
      subst h1
      unfold npStp at hn ⊢
      simp only at hn ⊢
      cases hb : Nat.blt pos y'.length with
      | false => rw [hb] at hn; cases hn
      | true =>
        rw [hb] at hn
        have hlt := blt_iff.1 hb
        simp only [cond_true] at hn ⊢
        cases hc : (bif decide (((decL y' pos).1 : Int) ≤ l) then true else decide (((decL y' pos).1 : Int) > 112)) with
        | true => rw [hc] at hn; cases hn
        | false =>
          simp only [cond_false]
          refine ⟨trivial, ?_⟩
          by_cases hlow : byteAt y' pos < 128
          · rw [drop_byte hlt, npGo] at h2
            have e : ((y'.getD pos 0).toNat : Int) = ((decL y' pos).1 : Int) := by rw [decL_low hlow]; rfl
            rw [e, hc] at h2
            rw [decN_low hlt hlow]
            exact h2
          · have h3 := (decL_high hlow).1
            rw [decide_eq_true (show ((decL y' pos).1 : Int) > 112 by omega)] at hc
            cases hd : decide (((decL y' pos).1 : Int) ≤ l) <;> rw [hd] at hc <;> cases hc
    · obtain ⟨⟨a, b, s, l, ⟨⟩⟩, ⟨y', pos⟩, ⟨⟩⟩ := x
      obtain ⟨h1, h2⟩ := hx
      simp only at h1 h2
      subst h1
      unfold npStp at hn ⊢
      simp only at hn ⊢
      cases hb : Nat.blt pos y'.length with
      | false =>
        have hlt : ¬ pos < y'.length := fun h => by rw [blt_iff.2 h] at hb; cases hb
        rw [List.drop_eq_nil_of_le (by omega), npGo] at h2
        subst h2
        exact ⟨rfl, rfl⟩
      | true =>
        rw [hb] at hn
        have hlt := blt_iff.1 hb
        simp only [cond_true] at hn ⊢
        cases hc : (bif decide (((decL y' pos).1 : Int) ≤ l) then true else decide (((decL y' pos).1 : Int) > 112)) with
        | false => rw [hc] at hn; exact absurd rfl hn
        | true =>
          simp only [cond_true]
          have h3 : o = none := by
            rw [drop_byte hlt, npGo] at h2
            by_cases hlow : byteAt y' pos < 128
            · have e : ((y'.getD pos 0).toNat : Int) = ((decL y' pos).1 : Int) := by rw [decL_low hlow]; rfl
              rw [e, hc] at h2
              exact h2.symm
            · have hg : decide (((y'.getD pos 0).toNat : Int) > 112) = true := decide_eq_true (by
                have : byteAt y' pos = (y'.getD pos 0).toNat := rfl
                omega)
              rw [hg] at h2
              cases hd : decide (((y'.getD pos 0).toNat : Int) ≤ l) <;> rw [hd] at h2 <;> exact h2.symm
          subst h3
          exact ⟨rfl, rfl, rfl⟩
theorem np_all (y : List UInt8) (a b : Int) : npEnd (npGo y 0 96) (runF npStp (npMu ((a, b, 0, 96, ()), (y, 0), ()) + 1) ((a, b, 0, 96, ()), (y, 0), ())) :=
  np_run _ _ ⟨rfl, rfl⟩ (by omega)
/-! The least node -/
theorem tz_at {n : Nat} (hn0 : n ≠ 0) (hn : n < 18446744073709551616) {a : Nat} (hlow : n &&& (18446744073709551616 - n) = a) :
    Int.fdiv (IntKind.wrap IntKind.u64 (bitsOp BinOp.and IntKind.u64 (n : Int) (IntKind.wrap IntKind.u64 ((0 : Int) - (n : Int))) * 285870213051353865)) 288230376151711744 = ((a * 285870213051353865 % 18446744073709551616 / 288230376151711744 : Nat) : Int) := by
  have ha : a ≤ n := by rw [← hlow]; exact Nat.and_le_left
  have e1 : IntKind.wrap IntKind.u64 ((0 : Int) - (n : Int)) = ((18446744073709551616 - n : Nat) : Int) := by
    rw [wrap_u64]
    omega
  have e2 : bitsOp BinOp.and IntKind.u64 (n : Int) ((18446744073709551616 - n : Nat) : Int) = (a : Int) := by
    show IntKind.u64.wrap ((BitVec.ofInt 64 (n : Int) &&& BitVec.ofInt 64 ((18446744073709551616 - n : Nat) : Int)).toNat : Int) = _
    rw [BitVec.toNat_and, BitVec.toNat_ofInt, BitVec.toNat_ofInt]
    have a1 : ((n : Int) % ((2 ^ 64 : Nat) : Int)).toNat = n := by omega
    have a2 : (((18446744073709551616 - n : Nat) : Int) % ((2 ^ 64 : Nat) : Int)).toNat = 18446744073709551616 - n := by omega
    rw [a1, a2, hlow, wrap_u64]
    omega
  rw [e1, e2, wrap_u64, Int.fdiv_eq_ediv_of_nonneg _ (by decide), Int.natCast_ediv, Int.natCast_emod, Int.natCast_mul]
  rfl
theorem tab_at (i : Nat) : List.getD lowTab (Int.toNat (i : Int)) 0 = ((Lib.deBruijn64tab.getD i 0 : Nat) : Int) := by
  rw [Int.toNat_natCast]
  unfold lowTab
  generalize Lib.deBruijn64tab = l
  simp only [List.getD_eq_getElem?_getD, List.getElem?_map]
  cases l[i]? <;> rfl
theorem tz_key {x : Int} (h0 : 0 < x) (h1 : x ≤ 18446744073709551615) :
    ((0 : Int) ≤ Int.fdiv (IntKind.wrap IntKind.u64 (bitsOp BinOp.and IntKind.u64 x (IntKind.wrap IntKind.u64 ((0 : Int) - x)) * 285870213051353865)) 288230376151711744 ∧
      Int.fdiv (IntKind.wrap IntKind.u64 (bitsOp BinOp.and IntKind.u64 x (IntKind.wrap IntKind.u64 ((0 : Int) - x)) * 285870213051353865)) 288230376151711744 < 64) ∧
    IntKind.wrap IntKind.i64 (List.getD lowTab (Int.toNat (Int.fdiv (IntKind.wrap IntKind.u64 (bitsOp BinOp.and IntKind.u64 x (IntKind.wrap IntKind.u64 ((0 : Int) - x)) * 285870213051353865)) 288230376151711744)) 0) = (Lib.ctz 64 x.toNat : Int) := by
  obtain ⟨n, rfl⟩ := Int.eq_ofNat_of_zero_le (Int.le_of_lt h0)
  have hn0 : n ≠ 0 := by omega
  have hn : n < 18446744073709551616 := by omega
  obtain ⟨hlow, hk⟩ := Lib.lowest_bit 64 n hn0 hn
  obtain ⟨hi, htab⟩ := Lib.deBruijn64_at _ hk
  rw [tz_at hn0 hn hlow, tab_at, htab, Int.toNat_natCast]
  generalize 2 ^ Lib.ctz 64 n * 285870213051353865 % 18446744073709551616 / 288230376151711744 = i at hi ⊢
  generalize Lib.ctz 64 n = k at hk ⊢
  exact ⟨⟨by omega, by omega⟩, i64_id (by omega) (by omega)⟩
theorem elems_head {s : Int} {k : Nat} (hk : k < 16) (h : hasF s k = true) (hb : ∀ j : Nat, j < k → hasF s j = false) : ∀ n : Nat, n ≤ 16 → 16 - n ≤ k → ∃ l, elemsF s n = (k : Int) :: l
  | 0, _, h1 => by omega
  | n + 1, h0, h1 => by
    unfold elemsF
    by_cases e : 16 - (n + 1) = k
    · have e2 : (16 : Int) - ((n + 1 : Nat) : Int) = (k : Int) := by omega
      rw [e2, h]
      exact ⟨_, rfl⟩
    · obtain ⟨l, hl⟩ := elems_head hk h hb n (by omega) (by omega)
      have e2 : (16 : Int) - ((n + 1 : Nat) : Int) = ((16 - (n + 1) : Nat) : Int) := by omega
      rw [e2, hb _ (by omega), hl]
      exact ⟨_, rfl⟩
theorem has_bit {s : Int} {j : Nat} (hj : j < 16) : hasF s j = (((s % 65536).toNat / 2 ^ j) % 2 == 1) := by
  unfold hasF
  rw [right_nat hj]
  simp only [cond_true]
  rw [bit_at hj]
  have h0 := Int.emod_nonneg s (show (65536 : Int) ≠ 0 by decide)
  have h1 : (s / ((2 ^ j : Nat) : Int)) % 2 = (((s % 65536).toNat / 2 ^ j % 2 : Nat) : Int) := by
    have e : ((s % 65536).toNat : Int) = s % 65536 := Int.toNat_of_nonneg h0
    have hk : j = 0 ∨ j = 1 ∨ j = 2 ∨ j = 3 ∨ j = 4 ∨ j = 5 ∨ j = 6 ∨ j = 7 ∨ j = 8 ∨ j = 9 ∨ j = 10 ∨ j = 11 ∨ j = 12 ∨ j = 13 ∨ j = 14 ∨ j = 15 := by omega
    rcases hk with rfl | rfl | rfl | rfl | rfl | rfl | rfl | rfl | rfl | rfl | rfl | rfl | rfl | rfl | rfl | rfl <;> (simp only [Nat.reducePow]; omega)
  rw [h1, Bool.eq_iff_iff]
  simp only [beq_iff_eq]
  omega
theorem low_none {x : Int} (h : (bitsOp BinOp.and IntKind.i64 x (65535 : Int) == (0 : Int)) = true) : (-1 : Int) = lowestF x := by
  rw [mask_empty] at h
  unfold lowestF
  rw [List.isEmpty_iff.1 h]
theorem low_some {x : Int} (h : (bitsOp BinOp.and IntKind.i64 x (65535 : Int) == (0 : Int)) = false) :
    0 < IntKind.wrap IntKind.u64 (bitsOp BinOp.and IntKind.i64 x (65535 : Int)) ∧ (Lib.ctz 64 (Int.toNat (IntKind.wrap IntKind.u64 (bitsOp BinOp.and IntKind.i64 x (65535 : Int)))) : Int) = lowestF x := by
  have hm : bitsOp BinOp.and IntKind.i64 x (65535 : Int) = x % 65536 := and_low (s := x) 16 (by omega)
  rw [hm] at h ⊢
  have h0 := Int.emod_nonneg x (show (65536 : Int) ≠ 0 by decide)
  have h1 := Int.emod_lt_of_pos x (show (0 : Int) < 65536 by decide)
  have hne : x % 65536 ≠ 0 := by simpa using h
  have e : IntKind.wrap IntKind.u64 (x % 65536) = x % 65536 := u64_id h0 (by omega)
  rw [e]
  refine ⟨by omega, ?_⟩
  obtain ⟨n, hn⟩ : ∃ n, (x % 65536).toNat = n := ⟨_, rfl⟩
  have hn0 : n ≠ 0 := by omega
  have hn1 : n < 65536 := by omega
  rw [hn]
  have hc : Lib.ctz 64 n = Lib.ctzFrom 64 n := by simp [Lib.ctz, hn0]
  obtain ⟨m, hm2, hk⟩ := Lib.ctzFrom_spec 64 n (by omega) (by omega)
  rw [hc]
  generalize Lib.ctzFrom 64 n = k at hm2 hk ⊢
  have hk16 : k < 16 := by
    by_cases hkk : k < 16
    · exact hkk
    · exfalso
      have : 2 ^ 16 ≤ 2 ^ k := Nat.pow_le_pow_right (by omega) (by omega)
      have h3 : 2 ^ k ≤ 2 ^ k * (2 * m + 1) := Nat.le_mul_of_pos_right _ (by omega)
      omega
  have hb : hasF x k = true := by
    rw [has_bit hk16, hn, hm2, Nat.mul_div_cancel_left _ (Nat.pow_pos (by omega))]
    simp
  have hnb : ∀ j : Nat, j < k → hasF x j = false := by
    intro j hj
    rw [has_bit (by omega), hn, hm2]
    have e2 : 2 ^ k = 2 ^ j * (2 * 2 ^ (k - j - 1)) := by
      rw [← Nat.pow_succ', ← Nat.pow_add]
      congr 1
      omega
    rw [e2, Nat.mul_assoc, Nat.mul_div_cancel_left _ (Nat.pow_pos (by omega)), Nat.mul_assoc]
    simp
  obtain ⟨l, hl⟩ := elems_head hk16 hb hnb 16 (by omega) (by omega)
  unfold lowestF
  rw [hl]
end Go.Ev
/- Sets of nodes out of texts; the least node of a set. -/
set_option linter.unusedVariables false
set_option linter.unusedSimpArgs false
namespace Go.Ev.D
open Go.Proofs
def tz64C : Ctr := { args := [.int .u64], res := [.int .i64], pre := some (fun (x : Int) => 0 < x), fn := fun (x : Int) => (Lib.ctz 64 x.toNat : Int) }
theorem tz64_tree : (fun x : Int => evFn (mkC tys [] []) (fnOf Tryd.prog 165) (resL tz64C.args x) tz64C.res) =
  (fun x =>
    Tree.br (x == (0 : Int)) (Tree.leaf (64 : Int))
      (Tree.need
        ((0 : Int) ≤ Int.fdiv (IntKind.wrap IntKind.u64 (bitsOp BinOp.and IntKind.u64 x (IntKind.wrap IntKind.u64 ((0 : Int) - x)) * (285870213051353865 : Int))) (288230376151711744 : Int) ∧
          Int.fdiv (IntKind.wrap IntKind.u64 (bitsOp BinOp.and IntKind.u64 x (IntKind.wrap IntKind.u64 ((0 : Int) - x)) * (285870213051353865 : Int))) (288230376151711744 : Int) < (64 : Int))
        (Tree.leaf
          (IntKind.wrap IntKind.i64
            (List.getD lowTab
              (Int.toNat (Int.fdiv (IntKind.wrap IntKind.u64 (bitsOp BinOp.and IntKind.u64 x (IntKind.wrap IntKind.u64 ((0 : Int) - x)) * (285870213051353865 : Int))) (288230376151711744 : Int)))
              (0 : Int)))))) := by kernel_rfl
theorem tz64_ok : CtrOK Tryd.prog 165 tz64C :=
  fun_ok (G := []) (Λ := []) tysOK ctrs_nil mixed (by kernel_rfl) (by kernel_rfl) (by kernel_rfl) (by kernel_rfl) lp_nil fun (x : Int) hw hp => by
    have hp' : 0 < (x : Int) := hp (fun (x : Int) => 0 < x) rfl
    have hu : IntKind.u64.has x := hw
    rw [has_u64] at hu
    rw [congrFun tz64_tree x]
    simp only [Tree.holds]
    have key := tz_key hp' hu.2
    refine ⟨fun h => ?_, fun _ => ⟨key.1, key.2⟩⟩
    have : x = 0 := by simpa using h
    omega
def tzG : List (Nat × Ctr) := [(165, tz64C)]
theorem tzG_ok : CtrsOK Tryd.prog (fun f => lk f tzG) := (ctrs_cons tz64_ok ctrs_nil)
def tzC : Ctr := { args := [.int .u64], res := [.int .i64], pre := some (fun (x : Int) => 0 < x), fn := fun (x : Int) => (Lib.ctz 64 x.toNat : Int) }
theorem tz_tree : (fun x : Int => evFn (mkC tys tzG []) (fnOf Tryd.prog 143) (resL tzC.args x) tzC.res) =
  (fun x => Tree.br false Tree.stuck (Tree.need ((0 : Int) < x) (Tree.leaf (↑(Lib.ctz (64 : Nat) (Int.toNat x)) : Int)))) := by kernel_rfl
theorem tz_ok : CtrOK Tryd.prog 143 tzC :=
  fun_ok (G := tzG) (Λ := []) tysOK tzG_ok mixed (by kernel_rfl) (by kernel_rfl) (by kernel_rfl) (by kernel_rfl) lp_nil fun (x : Int) hw hp => by
    have hp' : 0 < (x : Int) := hp (fun (x : Int) => 0 < x) rfl
    rw [congrFun tz_tree x]
    simp only [Tree.holds]
    exact ⟨nofun, fun _ => ⟨hp', rfl⟩⟩
def lowestG : List (Nat × Ctr) := [(143, tzC)]
theorem lowestG_ok : CtrsOK Tryd.prog (fun f => lk f lowestG) := (ctrs_cons tz_ok ctrs_nil)
def lowestC : Ctr := { args := [.int .i64], res := [.int .i64], pre := none, fn := fun (x : Int) => lowestF x }
theorem lowest_tree : (fun x : Int => evFn (mkC tys lowestG []) (fnOf Tryd.prog 120) (resL lowestC.args x) lowestC.res) =
  (fun x =>
    Tree.br (bitsOp BinOp.and IntKind.i64 x (65535 : Int) == (0 : Int)) (Tree.leaf (-1 : Int))
      (Tree.need ((0 : Int) < IntKind.wrap IntKind.u64 (bitsOp BinOp.and IntKind.i64 x (65535 : Int)))
        (Tree.leaf (↑(Lib.ctz (64 : Nat) (Int.toNat (IntKind.wrap IntKind.u64 (bitsOp BinOp.and IntKind.i64 x (65535 : Int))))) : Int)))) := by kernel_rfl
theorem lowest_ok : CtrOK Tryd.prog 120 lowestC :=
  fun_ok (G := lowestG) (Λ := []) tysOK lowestG_ok mixed (by kernel_rfl) (by kernel_rfl) (by kernel_rfl) (by kernel_rfl) lp_nil fun (x : Int) hw hp => by
    rw [congrFun lowest_tree x]
    have e : lowestC.fn x = lowestF x := rfl
    rw [e]
    simp only [Tree.holds]
    exact ⟨fun h => low_none h, fun h => low_some h⟩
def nparseG : List (Nat × Ctr) := [(100, withC)]
theorem nparseG_ok : CtrsOK Tryd.prog (fun f => lk f nparseG) := (ctrs_cons with_ok ctrs_nil)
def npD : LoopD where
  prom := []
  ts := [(2, .val (.int .i64)), (3, .val (.int .i64)), (4, .val (.int .i64)), (5, .val (.int .i32)), (11, .ptr 11 .unit)]
  bs := [(11, .iter)]
  pre := fun (x : (Int × Int × Int × Int × Unit) × (List UInt8 × Nat) × Unit) => True
  out := fun (x : (Int × Int × Int × Int × Unit) × (List UInt8 × Nat) × Unit) => out2 0 (runF npStp (npMu x + 1) x)
theorem nparse_round : (fun x : (Int × Int × Int × Int × Unit) × (List UInt8 × Nat) × Unit => roundOf (mkC tys nparseG [(0, npD.spec)]) npD (loopB 0 (bodyOf (fnOf Tryd.prog 119))) x) =
  (fun x =>
    Tree.br (Nat.blt x.2.1.2 (List.length x.2.1.1))
      (Tree.need (Nat.blt x.2.1.2 (List.length x.2.1.1) = true)
        (Tree.br (bif decide ((↑(decL x.2.1.1 x.2.1.2).1 : Int) ≤ x.1.2.2.2.1) then true else decide ((↑(decL x.2.1.1 x.2.1.2).1 : Int) > (112 : Int)))
          (Tree.leaf (Ex.ret, some (((0 : Int), (3 : Int), x.1.2.2.1, x.1.2.2.2.1, ()), (x.2.1.1, decN x.2.1.1 x.2.1.2), ())))
          (Tree.leaf
            (Ex.normal,
              some
                ((x.1.1, x.1.2.1, withF x.1.2.2.1 (IntKind.wrap IntKind.i64 (IntKind.wrap IntKind.i32 ((↑(decL x.2.1.1 x.2.1.2).1 : Int) - (97 : Int)))), (↑(decL x.2.1.1 x.2.1.2).1 : Int), ()),
                  (x.2.1.1, decN x.2.1.1 x.2.1.2), ())))))
      (Tree.leaf (Ex.exit (0 : Nat), some ((x.1.1, x.1.2.1, x.1.2.2.1, x.1.2.2.2.1, ()), (x.2.1.1, decN x.2.1.1 x.2.1.2), ())))) := by kernel_rfl
theorem nparse_loop : LoopOK (mkC tys nparseG [(0, npD.spec)]) npD.spec (loopB 0 (bodyOf (fnOf Tryd.prog 119))) :=
  loopF2_ok (id := 0) (D := npD) (fun x => congrFun nparse_round x) npStp npMu (fun _ => rfl) npStp_ends fun (x : (Int × Int × Int × Int × Unit) × (List UInt8 × Nat) × Unit) _ => by
    obtain ⟨⟨a, b, s, l, ⟨⟩⟩, ⟨y, pos⟩, ⟨⟩⟩ := x
    have hr := decL_lt y pos
    have e : IntKind.wrap IntKind.i64 (IntKind.wrap IntKind.i32 (((decL y pos).1 : Int) - 97)) = ((decL y pos).1 : Int) - 97 := by
      rw [show IntKind.wrap IntKind.i32 (((decL y pos).1 : Int) - 97) = ((decL y pos).1 : Int) - 97 from i32_id (by omega) (by omega)]
      exact i64_id (by omega) (by omega)
    refine ⟨?_, fun hn => ⟨trivial, np_mu hn⟩⟩
    simp only [Tree.holds, npStp]
    rw [e]
    refine ⟨fun h => ⟨h, fun h2 => ?_, fun h2 => ?_⟩, fun h => ?_⟩
    · rw [h, h2]; rfl
    · rw [h, h2]; rfl
    · rw [h]; rfl
theorem nparse_tree : (fun x : List UInt8 => evFn (mkC tys nparseG [(0, npD.spec)]) (fnOf Tryd.prog 119) (resL [.str] x) [.int .i64, .int .i64]) =
  (fun x =>
    Tree.br (x == [(46 : UInt8)]) (Tree.leaf ((0 : Int), (0 : Int)))
      (Tree.need True
        (Tree.br
          (isRet
            (runF npStp (npMu (((0 : Int), (0 : Int), (0 : Int), (96 : Int), PUnit.unit), (x, (0 : Nat)), PUnit.unit) + (1 : Nat))
                (((0 : Int), (0 : Int), (0 : Int), (96 : Int), PUnit.unit), (x, (0 : Nat)), PUnit.unit)).1)
          (Tree.leaf
            ((runF npStp (npMu (((0 : Int), (0 : Int), (0 : Int), (96 : Int), PUnit.unit), (x, (0 : Nat)), PUnit.unit) + (1 : Nat))
                      (((0 : Int), (0 : Int), (0 : Int), (96 : Int), PUnit.unit), (x, (0 : Nat)), PUnit.unit)).2.1.1,
              (runF npStp (npMu (((0 : Int), (0 : Int), (0 : Int), (96 : Int), PUnit.unit), (x, (0 : Nat)), PUnit.unit) + (1 : Nat))
                        (((0 : Int), (0 : Int), (0 : Int), (96 : Int), PUnit.unit), (x, (0 : Nat)), PUnit.unit)).2.1.2.1))
          (Tree.br
            ((runF npStp (npMu (((0 : Int), (0 : Int), (0 : Int), (96 : Int), PUnit.unit), (x, (0 : Nat)), PUnit.unit) + (1 : Nat))
                          (((0 : Int), (0 : Int), (0 : Int), (96 : Int), PUnit.unit), (x, (0 : Nat)), PUnit.unit)).2.1.2.2.1 ==
              (0 : Int))
            (Tree.leaf ((0 : Int), (3 : Int)))
            (Tree.leaf
              ((runF npStp (npMu (((0 : Int), (0 : Int), (0 : Int), (96 : Int), PUnit.unit), (x, (0 : Nat)), PUnit.unit) + (1 : Nat))
                            (((0 : Int), (0 : Int), (0 : Int), (96 : Int), PUnit.unit), (x, (0 : Nat)), PUnit.unit)).2.1.2.2.1,
                (0 : Int))))))) := by kernel_rfl
def nparseC : Ctr := { args := [.str], res := [.int .i64, .int .i64], pre := none, fn := fun (x : List UInt8) => nparseF x }
theorem nparse_ok : CtrOK Tryd.prog 119 nparseC :=
  fun_ok (G := nparseG) (Λ := [(0, npD.spec)]) tysOK nparseG_ok mixed (by kernel_rfl) (by kernel_rfl) (by kernel_rfl) (by kernel_rfl) (lp_cons nparse_loop lp_nil) fun (x : List UInt8) hw hp => by
    show (evFn (mkC tys nparseG [(0, npD.spec)]) (fnOf Tryd.prog 119) (resL [.str] x) [.int .i64, .int .i64]).holds (fun y => y = nparseF x)
    rw [congrFun nparse_tree x]
    have key := np_all x 0 0
    generalize runF npStp (npMu (((0 : Int), (0 : Int), (0 : Int), (96 : Int), PUnit.unit), (x, (0 : Nat)), PUnit.unit) + (1 : Nat)) (((0 : Int), (0 : Int), (0 : Int), (96 : Int), PUnit.unit), (x, (0 : Nat)), PUnit.unit) = r at key ⊢
    simp only [Tree.holds]
    refine ⟨fun h => ?_, fun h => ⟨trivial, fun h2 => ?_, fun h2 => ⟨fun h3 => ?_, fun h3 => ?_⟩⟩⟩
    all_goals (unfold nparseF; rw [h])
    · rfl
    · cases hg : npGo x 0 96 with
      | none => rw [hg] at key; rw [key.2.1, key.2.2]; rfl
      | some v => rw [hg] at key; rw [key.1] at h2; cases h2
    · cases hg : npGo x 0 96 with
      | none => rw [hg] at key; rw [key.1] at h2; cases h2
      | some v => rw [hg] at key; rw [key.2] at h3; simp only [cond_false]; rw [h3]; rfl
    · cases hg : npGo x 0 96 with
      | none => rw [hg] at key; rw [key.1] at h2; cases h2
      | some v => rw [hg] at key; rw [key.2] at h3 ⊢; simp only [cond_false]; rw [h3]; rfl
def rnparseG : List (Nat × Ctr) := [(101, rwithC)]
theorem rnparseG_ok : CtrsOK Tryd.prog (fun f => lk f rnparseG) := (ctrs_cons rwith_ok ctrs_nil)
theorem rnparse_round : (fun x : (Int × Int × Int × Int × Unit) × (List UInt8 × Nat) × Unit => roundOf (mkC tys rnparseG [(0, npD.spec)]) npD (loopB 0 (bodyOf (fnOf Tryd.prog 122))) x) =
  (fun x =>
    Tree.br (Nat.blt x.2.1.2 (List.length x.2.1.1))
      (Tree.need (Nat.blt x.2.1.2 (List.length x.2.1.1) = true)
        (Tree.br (bif decide ((↑(decL x.2.1.1 x.2.1.2).1 : Int) ≤ x.1.2.2.2.1) then true else decide ((↑(decL x.2.1.1 x.2.1.2).1 : Int) > (112 : Int)))
          (Tree.leaf (Ex.ret, some (((0 : Int), (3 : Int), x.1.2.2.1, x.1.2.2.2.1, ()), (x.2.1.1, decN x.2.1.1 x.2.1.2), ())))
          (Tree.leaf
            (Ex.normal,
              some
                ((x.1.1, x.1.2.1, withF x.1.2.2.1 (IntKind.wrap IntKind.i64 (IntKind.wrap IntKind.i32 ((↑(decL x.2.1.1 x.2.1.2).1 : Int) - (97 : Int)))), (↑(decL x.2.1.1 x.2.1.2).1 : Int), ()),
                  (x.2.1.1, decN x.2.1.1 x.2.1.2), ())))))
      (Tree.leaf (Ex.exit (0 : Nat), some ((x.1.1, x.1.2.1, x.1.2.2.1, x.1.2.2.2.1, ()), (x.2.1.1, decN x.2.1.1 x.2.1.2), ())))) := by kernel_rfl
theorem rnparse_loop : LoopOK (mkC tys rnparseG [(0, npD.spec)]) npD.spec (loopB 0 (bodyOf (fnOf Tryd.prog 122))) :=
  loopF2_ok (id := 0) (D := npD) (fun x => congrFun rnparse_round x) npStp npMu (fun _ => rfl) npStp_ends fun (x : (Int × Int × Int × Int × Unit) × (List UInt8 × Nat) × Unit) _ => by
    obtain ⟨⟨a, b, s, l, ⟨⟩⟩, ⟨y, pos⟩, ⟨⟩⟩ := x
    have hr := decL_lt y pos
    have e : IntKind.wrap IntKind.i64 (IntKind.wrap IntKind.i32 (((decL y pos).1 : Int) - 97)) = ((decL y pos).1 : Int) - 97 := by
      rw [show IntKind.wrap IntKind.i32 (((decL y pos).1 : Int) - 97) = ((decL y pos).1 : Int) - 97 from i32_id (by omega) (by omega)]
      exact i64_id (by omega) (by omega)
    refine ⟨?_, fun hn => ⟨trivial, np_mu hn⟩⟩
    simp only [Tree.holds, npStp]
    rw [e]
    refine ⟨fun h => ⟨h, fun h2 => ?_, fun h2 => ?_⟩, fun h => ?_⟩
    · rw [h, h2]; rfl
    · rw [h, h2]; rfl
    · rw [h]; rfl
theorem rnparse_tree : (fun x : List UInt8 => evFn (mkC tys rnparseG [(0, npD.spec)]) (fnOf Tryd.prog 122) (resL [.str] x) [.int .i64, .int .i64]) =
  (fun x =>
    Tree.br (x == [(46 : UInt8)]) (Tree.leaf ((0 : Int), (0 : Int)))
      (Tree.need True
        (Tree.br
          (isRet
            (runF npStp (npMu (((0 : Int), (0 : Int), (0 : Int), (96 : Int), PUnit.unit), (x, (0 : Nat)), PUnit.unit) + (1 : Nat))
                (((0 : Int), (0 : Int), (0 : Int), (96 : Int), PUnit.unit), (x, (0 : Nat)), PUnit.unit)).1)
          (Tree.leaf
            ((runF npStp (npMu (((0 : Int), (0 : Int), (0 : Int), (96 : Int), PUnit.unit), (x, (0 : Nat)), PUnit.unit) + (1 : Nat))
                      (((0 : Int), (0 : Int), (0 : Int), (96 : Int), PUnit.unit), (x, (0 : Nat)), PUnit.unit)).2.1.1,
              (runF npStp (npMu (((0 : Int), (0 : Int), (0 : Int), (96 : Int), PUnit.unit), (x, (0 : Nat)), PUnit.unit) + (1 : Nat))
                        (((0 : Int), (0 : Int), (0 : Int), (96 : Int), PUnit.unit), (x, (0 : Nat)), PUnit.unit)).2.1.2.1))
          (Tree.br
            ((runF npStp (npMu (((0 : Int), (0 : Int), (0 : Int), (96 : Int), PUnit.unit), (x, (0 : Nat)), PUnit.unit) + (1 : Nat))
                          (((0 : Int), (0 : Int), (0 : Int), (96 : Int), PUnit.unit), (x, (0 : Nat)), PUnit.unit)).2.1.2.2.1 ==
              (0 : Int))
            (Tree.leaf ((0 : Int), (3 : Int)))
            (Tree.leaf
              ((runF npStp (npMu (((0 : Int), (0 : Int), (0 : Int), (96 : Int), PUnit.unit), (x, (0 : Nat)), PUnit.unit) + (1 : Nat))
                            (((0 : Int), (0 : Int), (0 : Int), (96 : Int), PUnit.unit), (x, (0 : Nat)), PUnit.unit)).2.1.2.2.1,
                (0 : Int))))))) := by kernel_rfl
theorem rnparse_ok : CtrOK Tryd.prog 122 nparseC :=
  fun_ok (G := rnparseG) (Λ := [(0, npD.spec)]) tysOK rnparseG_ok mixed (by kernel_rfl) (by kernel_rfl) (by kernel_rfl) (by kernel_rfl) (lp_cons rnparse_loop lp_nil) fun (x : List UInt8) hw hp => by
    show (evFn (mkC tys rnparseG [(0, npD.spec)]) (fnOf Tryd.prog 122) (resL [.str] x) [.int .i64, .int .i64]).holds (fun y => y = nparseF x)
    rw [congrFun rnparse_tree x]
    have key := np_all x 0 0
    generalize runF npStp (npMu (((0 : Int), (0 : Int), (0 : Int), (96 : Int), PUnit.unit), (x, (0 : Nat)), PUnit.unit) + (1 : Nat)) (((0 : Int), (0 : Int), (0 : Int), (96 : Int), PUnit.unit), (x, (0 : Nat)), PUnit.unit) = r at key ⊢
    simp only [Tree.holds]
    refine ⟨fun h => ?_, fun h => ⟨trivial, fun h2 => ?_, fun h2 => ⟨fun h3 => ?_, fun h3 => ?_⟩⟩⟩
    all_goals (unfold nparseF; rw [h])
    · rfl
    · cases hg : npGo x 0 96 with
      | none => rw [hg] at key; rw [key.2.1, key.2.2]; rfl
      | some v => rw [hg] at key; rw [key.1] at h2; cases h2
    · cases hg : npGo x 0 96 with
      | none => rw [hg] at key; rw [key.1] at h2; cases h2
      | some v => rw [hg] at key; rw [key.2] at h3; simp only [cond_false]; rw [h3]; rfl
    · cases hg : npGo x 0 96 with
      | none => rw [hg] at key; rw [key.1] at h2; cases h2
      | some v => rw [hg] at key; rw [key.2] at h3 ⊢; simp only [cond_false]; rw [h3]; rfl
def rcountC : Ctr := { args := [.int .i64], res := [.int .i64], pre := none, fn := fun (x : Int) => ((elemsF x 16).length : Int) }
def rcountG : List (Nat × Ctr) := [(105, rlistC)]
theorem rcount_tree : (fun x : Int => evFn (mkC tys rcountG []) (fnOf Tryd.prog 123) (resL rcountC.args x) rcountC.res) =
  (fun x => Tree.leaf (↑(List.length (elemsF x (16 : Nat))) : Int)) := by kernel_rfl
theorem rcount_ok : CtrOK Tryd.prog 123 rcountC :=
  fun_ok (G := rcountG) (Λ := []) tysOK (ctrs_cons rlist_ok ctrs_nil) mixed (by kernel_rfl) (by kernel_rfl) (by kernel_rfl) (by kernel_rfl) lp_nil fun (x : Int) hw _ => by
    rw [congrFun rcount_tree x]
    exact holds_val (d := rcountC.fn x) (by kernel_rfl) (by simp [Tree.safe])
end Go.Ev.D
/- Words and numbers of a text, round by round. -/
set_option linter.unusedVariables false
set_option linter.unusedSimpArgs false
namespace Go.Ev
/-! Numbers -/
def badD (top r n : Int) : Bool := bif (bif decide (r < 48) then true else decide (r > 57)) then true else decide (n > top)
abbrev NumS := (Int × Int × Unit) × (List UInt8 × Nat) × Unit
def numStp (x : NumS) : Ex × NumS :=
  bif Nat.blt x.2.1.2 x.2.1.1.length then
    bif badD 65536 ((decL x.2.1.1 x.2.1.2).1 : Int) x.1.2.1 then (.ret, ((-1, x.1.2.1, ()), (x.2.1.1, decN x.2.1.1 x.2.1.2), ()))
    else (.normal, ((x.1.1, x.1.2.1 * 10 + (((decL x.2.1.1 x.2.1.2).1 : Int) - 48), ()), (x.2.1.1, decN x.2.1.1 x.2.1.2), ()))
  else (.exit 0, (x.1, (x.2.1.1, decN x.2.1.1 x.2.1.2), ()))
def numMu (x : NumS) : Nat := x.2.1.1.length - x.2.1.2
theorem badD_eq (top r n : Int) : badD top r n = (bif decide (r < 48) then true else bif decide (r > 57) then true else decide (n > top)) := by
  unfold badD
  cases decide (r < 48) <;> rfl
theorem badD_high {top r n : Int} (h : 128 ≤ r) : badD top r n = true := by
  unfold badD
  rw [decide_eq_true (show r > 57 by omega)]
  cases decide (r < 48) <;> rfl
theorem badD_no {top r n : Int} (h : badD top r n = false) : 48 ≤ r ∧ r ≤ 57 ∧ n ≤ top := by
  unfold badD at h
  by_cases h1 : r < 48
  · rw [decide_eq_true h1] at h; cases h
  · by_cases h2 : r > 57
    · rw [decide_eq_false h1, decide_eq_true h2] at h; cases h
    · by_cases h3 : n > top
      · rw [decide_eq_false h1, decide_eq_false h2, decide_eq_true h3] at h; cases h
      · omega
theorem numStp_ends (x : NumS) : (numStp x).1 = .normal ∨ (numStp x).1 = .exit 0 ∨ (numStp x).1 = .ret := by
  unfold numStp
  cases Nat.blt x.2.1.2 x.2.1.1.length with
  | false => exact .inr (.inl rfl)
  | true => cases badD 65536 ((decL x.2.1.1 x.2.1.2).1 : Int) x.1.2.1 with
    | true => exact .inr (.inr rfl)
    | false => exact .inl rfl
theorem num_go {x : NumS} (h : (numStp x).1 = .normal) (h0 : 0 ≤ x.1.2.1 ∧ x.1.2.1 ≤ 655369) : (0 ≤ (numStp x).2.1.2.1 ∧ (numStp x).2.1.2.1 ≤ 655369) ∧ numMu (numStp x).2 < numMu x := by
  unfold numStp at h ⊢
  cases hb : Nat.blt x.2.1.2 x.2.1.1.length with
  | false => rw [hb] at h; cases h
  | true =>
    rw [hb] at h
    cases hc : badD 65536 ((decL x.2.1.1 x.2.1.2).1 : Int) x.1.2.1 with
    | true => rw [hc] at h; cases h
    | false =>
      have := badD_no hc
      refine ⟨?_, decN_lt hb⟩
      simp only [cond_true, cond_false]
      omega
def numEnd (o : Option Int) (p : Ex × NumS) : Prop := match o with
  | none => p.1 = .ret ∧ p.2.1.1 = -1
  | some v => p.1 = .exit 0 ∧ p.2.1.2.1 = v
theorem num_run {y : List UInt8} {o : Option Int} : ∀ (n : Nat) (x : NumS), (x.2.1.1 = y ∧ numGo 65536 (y.drop x.2.1.2) x.1.2.1 = o) → numMu x < n → numEnd o (runF numStp n x) :=
  runF_inv fun x hx => by
    obtain ⟨⟨a, s, ⟨⟩⟩, ⟨y', pos⟩, ⟨⟩⟩ := x
    obtain ⟨h1, h2⟩ := hx
    simp only at h1 h2
    subst h1
    cases hb : Nat.blt pos y'.length with
    | false =>
      have hlt : ¬ pos < y'.length := fun h => by rw [blt_iff.2 h] at hb; cases hb
      have e : numStp ((a, s, ()), (y', pos), ()) = (.exit 0, ((a, s, ()), (y', decN y' pos), ())) := by unfold numStp; simp only; rw [hb]; rfl
      rw [e]
      refine ⟨fun h => (by cases h), fun _ => ?_⟩
      rw [List.drop_eq_nil_of_le (by omega), numGo] at h2
      subst h2
      exact ⟨rfl, rfl⟩
    | true =>
      have hlt := blt_iff.1 hb
      rw [drop_byte hlt, numGo] at h2
      cases hc : badD 65536 ((decL y' pos).1 : Int) s with
      | true =>
        have e : numStp ((a, s, ()), (y', pos), ()) = (.ret, ((-1, s, ()), (y', decN y' pos), ())) := by unfold numStp; simp only; rw [hb, hc]; rfl
        rw [e]
        refine ⟨fun h => (by cases h), fun _ => ?_⟩
        have h3 : o = none := by
          by_cases hlow : byteAt y' pos < 128
          · have e : ((y'.getD pos 0).toNat : Int) = ((decL y' pos).1 : Int) := by rw [decL_low hlow]; rfl
            rw [e, ← badD_eq, hc] at h2
            exact h2.symm
          · rw [← badD_eq, badD_high (by have : byteAt y' pos = (y'.getD pos 0).toNat := rfl; omega)] at h2
            exact h2.symm
        subst h3
        exact ⟨rfl, rfl⟩
      | false =>
        have e : numStp ((a, s, ()), (y', pos), ()) = (.normal, ((a, s * 10 + (((decL y' pos).1 : Int) - 48), ()), (y', decN y' pos), ())) := by unfold numStp; simp only; rw [hb, hc]; rfl
        rw [e]
        refine ⟨fun _ => ⟨⟨rfl, ?_⟩, decN_lt hb⟩, fun h => absurd rfl h⟩
        by_cases hlow : byteAt y' pos < 128
        · have e : ((y'.getD pos 0).toNat : Int) = ((decL y' pos).1 : Int) := by rw [decL_low hlow]; rfl
          rw [e, ← badD_eq, hc] at h2
          simp only
          rw [decN_low hlt hlow]
          exact h2
        · rw [badD_high (by have := (decL_high hlow).1; omega)] at hc
          cases hc
theorem num_all (y : List UInt8) (a : Int) : numEnd (numGo 65536 y 0) (runF numStp (numMu ((a, 0, ()), (y, 0), ()) + 1) ((a, 0, ()), (y, 0), ())) :=
  num_run _ _ ⟨rfl, rfl⟩ (by omega)
/-! Words -/
abbrev WS := (List UInt8 × Int × Unit) × List (List UInt8) × (List UInt8 × Nat) × Unit
def wStp (x : WS) : Ex × WS :=
  bif Nat.blt x.2.2.1.2 x.2.2.1.1.length then
    bif ((decL x.2.2.1.1 x.2.2.1.2).1 : Int) == (32 : Int) then (.normal, ((x.1.1, (x.2.2.1.2 : Int) + 1, ()), x.2.1 ++ [(x.1.1.take x.2.2.1.2).drop x.1.2.1.toNat], (x.2.2.1.1, decN x.2.2.1.1 x.2.2.1.2), ()))
    else (.normal, (x.1, x.2.1, (x.2.2.1.1, decN x.2.2.1.1 x.2.2.1.2), ()))
  else (.exit 0, (x.1, x.2.1, (x.2.2.1.1, decN x.2.2.1.1 x.2.2.1.2), ()))
def wMu (x : WS) : Nat := x.2.2.1.1.length - x.2.2.1.2
def wPre (x : WS) : Prop := x.2.2.1.1 = x.1.1 ∧ x.1.1.length ≤ 1000 ∧ 0 ≤ x.1.2.1 ∧ x.1.2.1 ≤ x.2.2.1.2 ∧ x.2.2.1.2 ≤ x.1.1.length ∧ x.2.1.length ≤ x.2.2.1.2
theorem wStp_ends (x : WS) : (wStp x).1 = .normal ∨ (wStp x).1 = .exit 0 := by
  unfold wStp
  cases Nat.blt x.2.2.1.2 x.2.2.1.1.length with
  | false => exact .inr rfl
  | true => cases ((decL x.2.2.1.1 x.2.2.1.2).1 : Int) == (32 : Int) <;> exact .inl rfl
theorem decN_le {y : List UInt8} {pos : Nat} (h : pos ≤ y.length) : decN y pos ≤ y.length := by
  by_cases hlt : pos < y.length
  · rw [decN_go hlt]
    by_cases hlow : byteAt y pos < 128
    · rw [decL_low hlow]; simp only; omega
    · have h2 := decL_pos y pos
      by_cases h1 : (decL y pos).2 = 1
      · omega
      · have := ((decL_high hlow).2 (pos + (decL y pos).2 - 1) (by omega) (by omega)).2 (by omega)
        omega
  · unfold decN
    rw [blt_no hlt]
    exact h
theorem w_go {x : WS} (hp : wPre x) (h : (wStp x).1 = .normal) : wPre (wStp x).2 ∧ wMu (wStp x).2 < wMu x := by
  obtain ⟨⟨s, st, ⟨⟩⟩, out, ⟨y, pos⟩, ⟨⟩⟩ := x
  obtain ⟨h1, h2, h3, h4, h5, h6⟩ := hp
  simp only at h1 h2 h3 h4 h5 h6
  subst h1
  have hle := decN_le h5
  cases hb : Nat.blt pos y.length with
  | false => unfold wStp at h; simp only at h; rw [hb] at h; cases h
  | true =>
    have hlt := blt_iff.1 hb
    have hN := decN_go hlt
    have hp := decL_pos y pos
    unfold wStp
    simp only
    rw [hb]
    cases hc : ((decL y pos).1 : Int) == (32 : Int) with
    | true =>
      simp only [cond_true]
      refine ⟨⟨rfl, h2, ?_, ?_, hle, ?_⟩, decN_lt hb⟩
      all_goals simp only
      · omega
      · omega
      · show (out ++ [_]).length ≤ decN y pos
        simp only [List.length_append, List.length_cons, List.length_nil]; omega
    | false =>
      simp only [cond_true, cond_false]
      refine ⟨⟨rfl, h2, h3, ?_, hle, ?_⟩, decN_lt hb⟩
      all_goals simp only
      · omega
      · omega
theorem take_more {s : List UInt8} {i : Nat} (h : i < s.length) : s.take (i + 1) = s.take i ++ [s.getD i 0] := by
  rw [List.take_add_one]
  simp [List.getD, h]
/-- Bytes that are no blank. -/
theorem words_skip {s : List UInt8} {st : Nat} : ∀ (k pos : Nat), st ≤ pos → pos + k ≤ s.length → (∀ j, pos ≤ j → j < pos + k → byteAt s j ≠ 32) → wordsGo (s.drop pos) ((s.take pos).drop st) = wordsGo (s.drop (pos + k)) ((s.take (pos + k)).drop st)
  | 0, pos, _, _, _ => rfl
  | k + 1, pos, h1, h2, h3 => by
    have hlt : pos < s.length := by omega
    have hb : (s.getD pos 0 == 32) = false := by
      have := h3 pos (Nat.le_refl _) (by omega)
      unfold byteAt at this
      simp only [beq_eq_false_iff_ne, ne_eq]
      intro e
      rw [e] at this
      exact this rfl
    rw [drop_byte hlt, wordsGo, hb]
    simp only [cond_false]
    have e : (s.take pos).drop st ++ [s.getD pos 0] = (s.take (pos + 1)).drop st := by
      rw [take_more hlt, List.drop_append_of_le_length (by rw [List.length_take]; omega)]
    rw [e, words_skip k (pos + 1) (by omega) (by omega) (fun j h4 h5 => h3 j (by omega) (by omega)), show pos + 1 + k = pos + (k + 1) by omega]
def wEnd (s : List UInt8) (p : Ex × WS) : Prop := p.1 = .exit 0 ∧ p.2.1.1 = s ∧ 0 ≤ p.2.1.2.1 ∧ p.2.1.2.1 ≤ s.length ∧ p.2.2.1.length ≤ s.length ∧ p.2.2.1 ++ [s.drop p.2.1.2.1.toNat] = wordsF s
theorem w_run {s : List UInt8} : ∀ (n : Nat) (x : WS), (wPre x ∧ x.1.1 = s ∧ x.2.1 ++ wordsGo (s.drop x.2.2.1.2) ((s.take x.2.2.1.2).drop x.1.2.1.toNat) = wordsF s) → wMu x < n → wEnd s (runF wStp n x) :=
  runF_inv fun x hx => by
    obtain ⟨hp, h1, h2⟩ := hx
    refine ⟨fun hn => ?_, fun hn => ?_⟩
    · obtain ⟨g1, g2⟩ := w_go hp hn
      refine ⟨⟨g1, ?_⟩, g2⟩
      obtain ⟨⟨s', st, ⟨⟩⟩, out, ⟨y, pos⟩, ⟨⟩⟩ := x
      obtain ⟨p1, p2, p3, p4, p5, p6⟩ := hp
      simp only at h1 h2 p1 p2 p3 p4 p5 p6
      subst p1
      subst h1
      cases hb : Nat.blt pos y.length with
      | false => unfold wStp at hn; simp only at hn; rw [hb] at hn; cases hn
      | true =>
        have hlt := blt_iff.1 hb
        cases hc : ((decL y pos).1 : Int) == (32 : Int) with
        | true =>
          have e : wStp ((y, st, ()), out, (y, pos), ()) = (.normal, ((y, (pos : Int) + 1, ()), out ++ [(y.take pos).drop st.toNat], (y, decN y pos), ())) := by unfold wStp; simp only; rw [hb, hc]; rfl
          rw [e]
          refine ⟨rfl, ?_⟩
          have hr : (decL y pos).1 = 32 := by
            have : ((decL y pos).1 : Int) = 32 := by simpa using hc
            omega
          have hlow : byteAt y pos < 128 := by
            by_cases hlow : byteAt y pos < 128
            · exact hlow
            · have := (decL_high hlow).1
              omega
          rw [decL_low hlow] at hr
          have hg : y.getD pos 0 = 32 := by
            apply UInt8.toNat_inj.1
            exact hr
          simp only
          rw [decN_low hlt hlow]
          rw [drop_byte hlt, wordsGo, hg] at h2
          have e2 : ((pos : Int) + 1).toNat = pos + 1 := by omega
          rw [e2, List.append_assoc]
          have e3 : (y.take (pos + 1)).drop (pos + 1) = [] := by
            apply List.drop_eq_nil_of_le
            rw [List.length_take]; omega
          rw [e3]
          simpa using h2
        | false =>
          have e : wStp ((y, st, ()), out, (y, pos), ()) = (.normal, ((y, st, ()), out, (y, decN y pos), ())) := by unfold wStp; simp only; rw [hb, hc]; rfl
          rw [e]
          refine ⟨rfl, ?_⟩
          simp only
          have hle := decN_le p5
          have hN := decN_go hlt
          rw [← h2]
          congr 1
          rw [hN] at hle ⊢
          refine (words_skip _ pos (by omega) hle fun j h3 h4 => ?_).symm
          by_cases hlow : byteAt y pos < 128
          · rw [decL_low hlow] at hc h4
            have hj : j = pos := by simp only at h4; omega
            rw [hj]
            have : ¬ ((byteAt y pos : Nat) : Int) = 32 := by simpa using hc
            omega
          · have := ((decL_high hlow).2 j h3 h4).1
            omega
    · obtain ⟨⟨s', st, ⟨⟩⟩, out, ⟨y, pos⟩, ⟨⟩⟩ := x
      obtain ⟨p1, p2, p3, p4, p5, p6⟩ := hp
      simp only at h1 h2 p1 p2 p3 p4 p5 p6
      subst p1
      subst h1
      cases hb : Nat.blt pos y.length with
      | true =>
        exfalso
        apply hn
        unfold wStp
        simp only
        rw [hb]
        cases ((decL y pos).1 : Int) == (32 : Int) <;> rfl
      | false =>
        have hlt : ¬ pos < y.length := fun h => by rw [blt_iff.2 h] at hb; cases hb
        have e : wStp ((y, st, ()), out, (y, pos), ()) = (.exit 0, ((y, st, ()), out, (y, decN y pos), ())) := by unfold wStp; simp only; rw [hb]; rfl
        rw [e]
        have hpos : pos = y.length := by omega
        refine ⟨rfl, rfl, p3, by simp only; omega, by simp only; omega, ?_⟩
        rw [hpos, List.drop_length, List.take_length, wordsGo] at h2
        exact h2
theorem w_all {s : List UInt8} (h : s.length ≤ 1000) : wEnd s (runF wStp (wMu ((s, 0, ()), [], (s, 0), ()) + 1) ((s, 0, ()), [], (s, 0), ())) :=
  w_run _ _ ⟨⟨rfl, h, Int.le_refl _, Int.le_refl _, Nat.zero_le _, Nat.le_refl _⟩, rfl, rfl⟩ (by omega)
end Go.Ev
/- A command read letter by letter. -/
set_option linter.unusedVariables false
set_option linter.unusedSimpArgs false
namespace Go.Ev
abbrev DgS := (Int × Unit) × DCmd × DCmd × (List UInt8 × Nat) × Unit
def dgStp : DgS → Ex × DgS
  | ((e, _), c2, c4, (y, pos), _) =>
    bif Nat.blt pos y.length then
      bif badD 1048576 ((decL y pos).1 : Int) c4.2.2 then (.ret, ((3, ()), (0, 0, 0), c4, (y, decN y pos), ()))
      else (.normal, ((e, ()), c2, (c4.1, c4.2.1, c4.2.2 * 10 + (((decL y pos).1 : Int) - 48)), (y, decN y pos), ()))
    else (.exit 3, ((e, ()), c2, c4, (y, decN y pos), ()))
def dgMu (x : DgS) : Nat := x.2.2.2.1.1.length - x.2.2.2.1.2
def dgPre (x : DgS) : Prop := 0 ≤ x.2.2.1.2.2 ∧ x.2.2.1.2.2 ≤ 10485769
theorem dgStp_ends (x : DgS) : (dgStp x).1 = .normal ∨ (dgStp x).1 = .exit 3 ∨ (dgStp x).1 = .ret := by
  obtain ⟨⟨e, ⟨⟩⟩, c2, c4, ⟨y, pos⟩, ⟨⟩⟩ := x
  unfold dgStp
  simp only
  cases Nat.blt pos y.length with
  | false => exact .inr (.inl rfl)
  | true => cases badD 1048576 ((decL y pos).1 : Int) c4.2.2 with
    | true => exact .inr (.inr rfl)
    | false => exact .inl rfl
theorem dg_go {x : DgS} (h : (dgStp x).1 = .normal) (h0 : dgPre x) : dgPre (dgStp x).2 ∧ dgMu (dgStp x).2 < dgMu x := by
  obtain ⟨⟨e, ⟨⟩⟩, c2, c4, ⟨y, pos⟩, ⟨⟩⟩ := x
  unfold dgStp at h ⊢
  simp only at h ⊢
  cases hb : Nat.blt pos y.length with
  | false => rw [hb] at h; cases h
  | true =>
    rw [hb] at h
    cases hc : badD 1048576 ((decL y pos).1 : Int) c4.2.2 with
    | true => rw [hc] at h; cases h
    | false =>
      have := badD_no hc
      obtain ⟨h1, h2⟩ := h0
      simp only at h1 h2
      refine ⟨⟨?_, ?_⟩, decN_lt hb⟩
      · show 0 ≤ c4.2.2 * 10 + (((decL y pos).1 : Int) - 48)
        omega
      · show c4.2.2 * 10 + (((decL y pos).1 : Int) - 48) ≤ 10485769
        omega
theorem dg_pre : ∀ (n : Nat) (x : DgS), dgPre x → dgMu x < n → dgPre (runF dgStp n x).2 ∧ (isRet (runF dgStp n x).1 = true → (runF dgStp n x).2.1.1 = 3 ∧ (runF dgStp n x).2.2.1 = (0, 0, 0)) :=
  fun n x hx hn => runF_inv (stp := dgStp) (J := dgPre) (Post := fun p => dgPre p.2 ∧ (isRet p.1 = true → p.2.1.1 = 3 ∧ p.2.2.1 = (0, 0, 0))) (μ := dgMu) (fun x hx => by
    refine ⟨fun hn => dg_go hn hx, fun hn => ?_⟩
    obtain ⟨⟨e, ⟨⟩⟩, c2, c4, ⟨y, pos⟩, ⟨⟩⟩ := x
    unfold dgStp at hn ⊢
    simp only at hn ⊢
    cases hb : Nat.blt pos y.length with
    | false => exact ⟨hx, fun h => (by cases h)⟩
    | true =>
      rw [hb] at hn
      cases hc : badD 1048576 ((decL y pos).1 : Int) c4.2.2 with
      | true => exact ⟨hx, fun _ => ⟨rfl, rfl⟩⟩
      | false => rw [hc] at hn; exact absurd rfl hn) n x hx hn
def dgEnd (o : Option Int) (a b : Int) (p : Ex × DgS) : Prop := match o with
  | none => p.1 = .ret
  | some v => p.1 = .exit 3 ∧ p.2.2.2.1 = (a, b, v)
theorem dg_run {y : List UInt8} {o : Option Int} {a b : Int} : ∀ (n : Nat) (x : DgS), (x.2.2.2.1.1 = y ∧ x.2.2.1.1 = a ∧ x.2.2.1.2.1 = b ∧ dgPre x ∧ numGo 1048576 (y.drop x.2.2.2.1.2) x.2.2.1.2.2 = o) → dgMu x < n → dgEnd o a b (runF dgStp n x) :=
  runF_inv fun x hx => by
    obtain ⟨h1, ha, hb', hp, h2⟩ := hx
    have hgo := fun hn => dg_go (x := x) hn hp
    obtain ⟨⟨er, ⟨⟩⟩, c2, ⟨k, nd, s⟩, ⟨y', pos⟩, ⟨⟩⟩ := x
    simp only at h1 h2 ha hb'
    subst h1 ha hb'
    cases hb : Nat.blt pos y'.length with
    | false =>
      have hlt : ¬ pos < y'.length := fun h => by rw [blt_iff.2 h] at hb; cases hb
      have e : dgStp ((er, ()), c2, (k, nd, s), (y', pos), ()) = (.exit 3, ((er, ()), c2, (k, nd, s), (y', decN y' pos), ())) := by unfold dgStp; simp only; rw [hb]; rfl
      rw [e]
      refine ⟨fun h => (by cases h), fun _ => ?_⟩
      rw [List.drop_eq_nil_of_le (by omega), numGo] at h2
      subst h2
      exact ⟨rfl, rfl⟩
    | true =>
      have hlt := blt_iff.1 hb
      rw [drop_byte hlt, numGo] at h2
      cases hc : badD 1048576 ((decL y' pos).1 : Int) s with
      | true =>
        have e : dgStp ((er, ()), c2, (k, nd, s), (y', pos), ()) = (.ret, ((3, ()), (0, 0, 0), (k, nd, s), (y', decN y' pos), ())) := by unfold dgStp; simp only; rw [hb, hc]; rfl
        rw [e]
        refine ⟨fun h => (by cases h), fun _ => ?_⟩
        have h3 : o = none := by
          by_cases hlow : byteAt y' pos < 128
          · have e : ((y'.getD pos 0).toNat : Int) = ((decL y' pos).1 : Int) := by rw [decL_low hlow]; rfl
            rw [e, ← badD_eq, hc] at h2
            exact h2.symm
          · rw [← badD_eq, badD_high (by have : byteAt y' pos = (y'.getD pos 0).toNat := rfl; omega)] at h2
            exact h2.symm
        subst h3
        exact rfl
      | false =>
        have e : dgStp ((er, ()), c2, (k, nd, s), (y', pos), ()) = (.normal, ((er, ()), c2, (k, nd, s * 10 + (((decL y' pos).1 : Int) - 48)), (y', decN y' pos), ())) := by unfold dgStp; simp only; rw [hb, hc]; rfl
        rw [e] at hgo ⊢
        refine ⟨fun _ => ⟨⟨rfl, rfl, rfl, (hgo rfl).1, ?_⟩, decN_lt hb⟩, fun h => absurd rfl h⟩
        by_cases hlow : byteAt y' pos < 128
        · have e : ((y'.getD pos 0).toNat : Int) = ((decL y' pos).1 : Int) := by rw [decL_low hlow]; rfl
          rw [e, ← badD_eq, hc] at h2
          simp only
          rw [decN_low hlt hlow]
          exact h2
        · rw [badD_high (by have := (decL_high hlow).1; omega)] at hc
          cases hc
/-! The whole -/
def kUp (t : List UInt8) (c : DCmd) : DCmd := (bif wordK 4 == t then 4 else bif wordK 3 == t then 3 else bif wordK 2 == t then 2 else bif wordK 1 == t then 1 else c.1, c.2)
def rIn (e : Int) (c2 c4 : DCmd) (t : List UInt8) : Ex × DgS := runF dgStp (dgMu ((e, ()), c2, c4, (t, 0), ()) + 1) ((e, ()), c2, c4, (t, 0), ())
abbrev RS := (Int × Int × List UInt8 × Unit) × DCmd × DCmd × (List UInt8 × Nat) × Unit
def rSt (e w : Int) (t : List UInt8) (c2 c4 : DCmd) (y : List UInt8) (pos : Nat) : RS := ((e, w, t, ()), c2, c4, (y, pos), ())
def rStp : RS → Ex × RS
  | ((e, w, t, _), c2, c4, (y, pos), _) =>
    bif Nat.blt pos y.length then
      bif ((decL y pos).1 : Int) != (32 : Int) then (.normal, ((e, w, t ++ encR ((decL y pos).1 : Int), ()), c2, c4, (y, decN y pos), ()))
      else bif w == (0 : Int) then (.normal, ((e, w + 1, [], ()), c2, kUp t c4, (y, decN y pos), ()))
      else bif w == (1 : Int) then
        bif (bif (nparseF t).2 != (0 : Int) then true else (((elemsF (nparseF t).1 16).length : Int) != (1 : Int))) then (.ret, ((3, w, t, ()), (0, 0, 0), c4, (y, decN y pos), ()))
        else (.normal, ((e, w + 1, [], ()), c2, (c4.1, (elemsF (nparseF t).1 16).getD 0 0, c4.2.2), (y, decN y pos), ()))
      else bif isRet (rIn e c2 c4 t).1 then (.ret, (((rIn e c2 c4 t).2.1.1, w, t, ()), (rIn e c2 c4 t).2.2.1, (rIn e c2 c4 t).2.2.2.1, (y, decN y pos), ()))
      else (.normal, (((rIn e c2 c4 t).2.1.1, w + 1, [], ()), (rIn e c2 c4 t).2.2.1, (rIn e c2 c4 t).2.2.2.1, (y, decN y pos), ()))
    else (.exit 0, ((e, w, t, ()), c2, c4, (y, decN y pos), ()))
def rPre (x : RS) : Prop := x.2.2.2.1.1.length ≤ 41 ∧ x.2.2.2.1.2 ≤ x.2.2.2.1.1.length ∧ x.1.2.2.1.length ≤ 4 * x.2.2.2.1.2 ∧ 0 ≤ x.1.2.1 ∧ x.1.2.1 ≤ x.2.2.2.1.2 ∧ 0 ≤ x.2.2.1.2.2 ∧ x.2.2.1.2.2 ≤ 10485769
def rMu (x : RS) : Nat := x.2.2.2.1.1.length - x.2.2.2.1.2
theorem rStp_ends (x : RS) : (rStp x).1 = .normal ∨ (rStp x).1 = .exit 0 ∨ (rStp x).1 = .ret := by
  obtain ⟨⟨e, w, t, ⟨⟩⟩, c2, c4, ⟨y, pos⟩, ⟨⟩⟩ := x
  unfold rStp
  simp only
  cases Nat.blt pos y.length <;> cases ((decL y pos).1 : Int) != (32 : Int) <;> cases w == (0 : Int) <;> cases w == (1 : Int) <;>
    cases (bif (nparseF t).2 != (0 : Int) then true else (((elemsF (nparseF t).1 16).length : Int) != (1 : Int))) <;> cases isRet (rIn e c2 c4 t).1 <;> simp
theorem encR_four (n : Int) : (encR n).length ≤ 4 := by
  unfold encR Utf8.encode
  simp only
  repeat' split
  all_goals simp
theorem r_go {x : RS} (hp : rPre x) (h : (rStp x).1 = .normal) : rPre (rStp x).2 ∧ rMu (rStp x).2 < rMu x := by
  obtain ⟨⟨e, w, t, ⟨⟩⟩, c2, ⟨k, nd, s⟩, ⟨y, pos⟩, ⟨⟩⟩ := x
  obtain ⟨h1, h2, h3, h4, h5, h6, h7⟩ := hp
  simp only at h1 h2 h3 h4 h5 h6 h7
  have hle := decN_le h2
  unfold rStp at h ⊢
  simp only at h ⊢
  cases hb : Nat.blt pos y.length with
  | false => rw [hb] at h; cases h
  | true =>
    have hlt := blt_iff.1 hb
    have hN := decN_go hlt
    have hpos := decL_pos y pos
    rw [hb] at h
    simp only [cond_true] at h ⊢
    cases hc : ((decL y pos).1 : Int) != (32 : Int) with
    | true =>
      simp only [cond_true]
      have := encR_four ((decL y pos).1 : Int)
      refine ⟨⟨h1, hle, ?_, h4, ?_, h6, h7⟩, decN_lt hb⟩
      · simp only [List.length_append]; omega
      · simp only; omega
    | false =>
      rw [hc] at h
      simp only [cond_false] at h ⊢
      cases hw : w == (0 : Int) with
      | true =>
        simp only [cond_true]
        refine ⟨⟨h1, hle, Nat.zero_le _, ?_, ?_, h6, h7⟩, decN_lt hb⟩
        · simp only; omega
        · simp only; omega
      | false =>
        rw [hw] at h
        simp only [cond_false] at h ⊢
        cases hw1 : w == (1 : Int) with
        | true =>
          rw [hw1] at h
          simp only [cond_true] at h ⊢
          cases hn : (bif (nparseF t).2 != (0 : Int) then true else (((elemsF (nparseF t).1 16).length : Int) != (1 : Int))) with
          | true => rw [hn] at h; cases h
          | false =>
            simp only [cond_false]
            refine ⟨⟨h1, hle, Nat.zero_le _, ?_, ?_, h6, h7⟩, decN_lt hb⟩
            · simp only; omega
            · simp only; omega
        | false =>
          rw [hw1] at h
          simp only [cond_false] at h ⊢
          have hd := dg_pre (dgMu ((e, ()), c2, (k, nd, s), (t, 0), ()) + 1) ((e, ()), c2, (k, nd, s), (t, 0), ()) ⟨h6, h7⟩ (by omega)
          change dgPre (rIn e c2 (k, nd, s) t).2 ∧ _ at hd
          cases hr : isRet (rIn e c2 (k, nd, s) t).1 with
          | true => rw [hr] at h; cases h
          | false =>
            simp only [cond_false]
            refine ⟨⟨h1, hle, Nat.zero_le _, ?_, ?_, hd.1.1, hd.1.2⟩, decN_lt hb⟩
            · simp only; omega
            · simp only; omega
def rRun (x : RS) : Ex × RS := runF rStp (rMu x + 1) x
theorem rr_go {x y : RS} (hp : rPre x) (h : rStp x = (.normal, y)) : rPre y ∧ rRun x = rRun y := by
  have h1 : (rStp x).1 = .normal := by rw [h]
  obtain ⟨g1, g2⟩ := r_go hp h1
  rw [h] at g1 g2
  refine ⟨g1, ?_⟩
  unfold rRun
  rw [runF_go h]
  exact runF_fuel (pre := rPre) (μ := rMu) (fun z hz hn => r_go hz hn) _ _ _ g1 g2 (by omega)
theorem rr_end {x : RS} (h : (rStp x).1 ≠ .normal) : rRun x = rStp x := runF_end h
/-- Where it leaves the function, it says so. -/
theorem rr_ret {x : RS} (hp : rPre x) : (isRet (rRun x).1 = true → (rRun x).2.2.1 = (0, 0, 0) ∧ (rRun x).2.1.1 = 3) ∧ (isRet (rRun x).1 = false → (rRun x).1 = .exit 0) := by
  refine runF_inv (stp := rStp) (J := rPre) (Post := fun p => (isRet p.1 = true → p.2.2.1 = (0, 0, 0) ∧ p.2.1.1 = 3) ∧ (isRet p.1 = false → p.1 = .exit 0)) (μ := rMu) (fun x hx => ⟨fun hn => r_go hx hn, fun hn => ?_⟩) _ x hp (by omega)
  have he := (rStp_ends x).resolve_left hn
  refine ⟨fun h => ?_, fun h => he.resolve_right (fun h2 => by rw [h2] at h; cases h)⟩
  obtain ⟨⟨e, w, t, ⟨⟩⟩, c2, ⟨k, nd, s⟩, ⟨y, pos⟩, ⟨⟩⟩ := x
  obtain ⟨h1, h2, h3, h4, h5, h6, h7⟩ := hx
  simp only at h1 h2 h3 h4 h5 h6 h7
  have hd := dg_pre (dgMu ((e, ()), c2, (k, nd, s), (t, 0), ()) + 1) ((e, ()), c2, (k, nd, s), (t, 0), ()) ⟨h6, h7⟩ (by omega)
  change dgPre (rIn e c2 (k, nd, s) t).2 ∧ (isRet (rIn e c2 (k, nd, s) t).1 = true → (rIn e c2 (k, nd, s) t).2.1.1 = 3 ∧ (rIn e c2 (k, nd, s) t).2.2.1 = (0, 0, 0)) at hd
  clear he hn
  unfold rStp at h ⊢
  simp only at h ⊢
  cases hb : Nat.blt pos y.length with
  | false => rw [hb] at h; cases h
  | true =>
    rw [hb] at h
    simp only [cond_true] at h ⊢
    cases hc : ((decL y pos).1 : Int) != (32 : Int) with
    | true => rw [hc] at h; cases h
    | false =>
      rw [hc] at h
      simp only [cond_false] at h ⊢
      cases hw : w == (0 : Int) with
      | true => rw [hw] at h; cases h
      | false =>
        rw [hw] at h
        simp only [cond_false] at h ⊢
        cases hw1 : w == (1 : Int) with
        | true =>
          rw [hw1] at h
          simp only [cond_true] at h ⊢
          cases hn : (bif (nparseF t).2 != (0 : Int) then true else (((elemsF (nparseF t).1 16).length : Int) != (1 : Int))) with
          | true => exact ⟨rfl, rfl⟩
          | false => rw [hn] at h; cases h
        | false =>
          rw [hw1] at h
          simp only [cond_false] at h ⊢
          cases hr : isRet (rIn e c2 (k, nd, s) t).1 with
          | true => exact ⟨(hd.2 hr).2, (hd.2 hr).1⟩
          | false => rw [hr] at h; cases h
end Go.Ev
/- A printed command, read letter by letter. -/
set_option linter.unusedVariables false
set_option linter.unusedSimpArgs false
namespace Go.Ev
theorem encR_small : ∀ n : Nat, n < 128 → encR (n : Int) = [UInt8.ofNat n] := by decide +kernel
theorem encR_low {b : UInt8} (h : b.toNat < 128) : encR (b.toNat : Int) = [b] := by
  rw [encR_small _ h, UInt8.ofNat_toNat]
theorem r_letter {e w : Int} {t : List UInt8} {c2 c4 : DCmd} {y : List UInt8} {pos : Nat} (hlt : pos < y.length) (h1 : byteAt y pos < 128) (h2 : byteAt y pos ≠ 32) :
    rStp (rSt e w t c2 c4 y pos) = (.normal, rSt e w (t ++ [y.getD pos 0]) c2 c4 y (pos + 1)) := by
  have he : encR ((decL y pos).1 : Int) = [y.getD pos 0] := by
    rw [decL_low h1]
    exact encR_low h1
  have hn : (((decL y pos).1 : Int) != (32 : Int)) = true := by
    rw [decL_low h1]
    simp only [bne_iff_ne, ne_eq]
    omega
  show rStp ((e, w, t, ()), c2, c4, (y, pos), ()) = _
  unfold rStp
  simp only
  rw [blt_iff.2 hlt, hn, he, decN_low hlt h1]
  rfl
theorem r_seg {e w : Int} {c2 c4 : DCmd} {y : List UInt8} : ∀ (k : Nat) {t : List UInt8} {pos : Nat}, rPre (rSt e w t c2 c4 y pos) → pos + k ≤ y.length → (∀ j, pos ≤ j → j < pos + k → byteAt y j < 128 ∧ byteAt y j ≠ 32) →
    rPre (rSt e w (t ++ (y.drop pos).take k) c2 c4 y (pos + k)) ∧ rRun (rSt e w t c2 c4 y pos) = rRun (rSt e w (t ++ (y.drop pos).take k) c2 c4 y (pos + k))
  | 0, t, pos, hp, _, _ => by simpa using hp
  | k + 1, t, pos, hp, hl, hb => by
    have hlt : pos < y.length := by omega
    obtain ⟨h1, h2⟩ := hb pos (Nat.le_refl _) (by omega)
    obtain ⟨g1, g2⟩ := rr_go hp (r_letter hlt h1 h2)
    obtain ⟨g3, g4⟩ := r_seg k g1 (by omega) (fun j h3 h4 => hb j (by omega) (by omega))
    have e1 : (t ++ [y.getD pos 0]) ++ (y.drop (pos + 1)).take k = t ++ (y.drop pos).take (k + 1) := by
      rw [drop_byte hlt, List.take_succ_cons, List.append_assoc]
      rfl
    rw [e1, show pos + 1 + k = pos + (k + 1) by omega] at g3 g4
    exact ⟨g3, g2.trans g4⟩
theorem blank {y : List UInt8} {pos : Nat} (h : byteAt y pos = 32) : (((decL y pos).1 : Int) != (32 : Int)) = false ∧ byteAt y pos < 128 := by
  have : byteAt y pos < 128 := by omega
  rw [decL_low this, h]
  exact ⟨rfl, by omega⟩
theorem r_blank0 {e : Int} {t : List UInt8} {c2 c4 : DCmd} {y : List UInt8} {pos : Nat} (hlt : pos < y.length) (h : byteAt y pos = 32) : rStp (rSt e 0 t c2 c4 y pos) = (.normal, rSt e 1 [] c2 (kUp t c4) y (pos + 1)) := by
  obtain ⟨h1, h2⟩ := blank h
  show rStp ((e, 0, t, ()), c2, c4, (y, pos), ()) = _
  unfold rStp
  simp only
  rw [blt_iff.2 hlt, h1, decN_low hlt h2]
  rfl
theorem r_blank1 {e : Int} {n : Int} {c2 c4 : DCmd} {y : List UInt8} {pos : Nat} (hlt : pos < y.length) (h : byteAt y pos = 32) (h0 : 0 ≤ n) (h16 : n < 16) : rStp (rSt e 1 [letF n] c2 c4 y pos) = (.normal, rSt e 2 [] c2 (c4.1, n, c4.2.2) y (pos + 1)) := by
  obtain ⟨h1, h2⟩ := blank h
  obtain ⟨_, k2, _, _, k5⟩ := one_text h0 h16
  show rStp ((e, 1, [letF n], ()), c2, c4, (y, pos), ()) = _
  unfold rStp
  simp only
  rw [blt_iff.2 hlt, h1, decN_low hlt h2, k2]
  simp only
  rw [k5]
  rfl
theorem r_blank2 {e : Int} {n : Int} {c2 : DCmd} {k nd : Int} {y : List UInt8} {pos : Nat} (hlt : pos < y.length) (h : byteAt y pos = 32) (h0 : 1 ≤ n) (h16 : n ≤ 65536) :
    ∃ e' c2', rStp (rSt e 2 (natT n.toNat) c2 (k, nd, 0) y pos) = (.normal, rSt e' 3 [] c2' (k, nd, n) y (pos + 1)) := by
  obtain ⟨h1, h2⟩ := blank h
  have hg : numGo 1048576 (natT n.toNat) 0 = some n := by
    have := num_digits (top := 1048576) 20 n.toNat (by omega) (by omega) (by omega)
    rw [Int.toNat_of_nonneg (by omega)] at this
    exact this
  have hr := dg_run (y := natT n.toNat) (o := some n) (a := k) (b := nd) _ ((e, ()), c2, (k, nd, 0), (natT n.toNat, 0), ()) ⟨rfl, rfl, rfl, ⟨by simp, by simp⟩, hg⟩ (Nat.lt_succ_self _)
  change dgEnd (some n) k nd (rIn e c2 (k, nd, 0) (natT n.toNat)) at hr
  obtain ⟨r1, r2⟩ := hr
  refine ⟨(rIn e c2 (k, nd, 0) (natT n.toNat)).2.1.1, (rIn e c2 (k, nd, 0) (natT n.toNat)).2.2.1, ?_⟩
  show rStp ((e, 2, natT n.toNat, ()), c2, (k, nd, 0), (y, pos), ()) = _
  unfold rStp
  simp only
  rw [blt_iff.2 hlt, h1, decN_low hlt h2, r1, r2]
  rfl
theorem byte_app {p q : List UInt8} {i : Nat} : byteAt (p ++ q) (p.length + i) = byteAt q i := by
  unfold byteAt
  simp [List.getD_eq_getElem?_getD, List.getElem?_append_right]
theorem byte_cons {b : UInt8} {q : List UInt8} : byteAt (b :: q) 0 = b.toNat := rfl
theorem byte_in {q : List UInt8} {i : Nat} (h : i < q.length) : ∃ b ∈ q, byteAt q i = b.toNat := ⟨q[i], List.getElem_mem h, by unfold byteAt; simp [List.getD, h]⟩
/-- A word behind p is gone through. -/
theorem r_word {e w : Int} {c2 c4 : DCmd} {p a q : List UInt8} (hp : rPre (rSt e w [] c2 c4 (p ++ (a ++ q)) p.length)) (ha : ∀ b ∈ a, b.toNat < 128 ∧ b ≠ 32) :
    rPre (rSt e w a c2 c4 (p ++ (a ++ q)) (p.length + a.length)) ∧ rRun (rSt e w [] c2 c4 (p ++ (a ++ q)) p.length) = rRun (rSt e w a c2 c4 (p ++ (a ++ q)) (p.length + a.length)) := by
  have h := r_seg (e := e) (w := w) (c2 := c2) (c4 := c4) (y := p ++ (a ++ q)) a.length hp (by simp) (fun j h1 h2 => by
    obtain ⟨i, rfl⟩ : ∃ i, j = p.length + i := ⟨j - p.length, by omega⟩
    rw [byte_app]
    have hi : i < a.length := by omega
    have : byteAt (a ++ q) i = byteAt a i := by unfold byteAt; simp [List.getD_eq_getElem?_getD, List.getElem?_append_left hi]
    rw [this]
    obtain ⟨b, hb, hbe⟩ := byte_in hi
    rw [hbe]
    obtain ⟨g1, g2⟩ := ha b hb
    exact ⟨g1, fun hc => g2 (UInt8.toNat_inj.1 hc)⟩)
  rw [List.drop_left' rfl, List.take_left' rfl] at h
  simpa using h
theorem wordK_low {k : Int} (h : k = 1 ∨ k = 2 ∨ k = 3 ∨ k = 4) : (∀ b ∈ wordK k, b.toNat < 128 ∧ b ≠ 32) ∧ kUp (wordK k) (0, 0, 0) = (k, 0, 0) := by
  rcases h with rfl | rfl | rfl | rfl <;> decide +kernel
theorem let_low {n : Int} (h0 : 0 ≤ n) (h1 : n < 16) : ∀ b ∈ [letF n], b.toNat < 128 ∧ b ≠ 32 := by
  intro b hb
  rw [List.mem_singleton] at hb
  subst hb
  refine ⟨?_, (one_text h0 h1).2.2.2.1⟩
  unfold letF
  rw [UInt8.toNat_ofNat']
  omega
theorem dig_low {n : Nat} : ∀ b ∈ natT n, b.toNat < 128 ∧ b ≠ 32 := fun b hb => by
  have := digN_no _ _ b hb
  exact ⟨by omega, fun h => by rw [h] at this; exact absurd this.1 (by decide)⟩
theorem r_over {e w : Int} {t : List UInt8} {c2 c4 : DCmd} {y : List UInt8} : rRun (rSt e w t c2 c4 y y.length) = (.exit 0, rSt e w t c2 c4 y (decN y y.length)) := by
  have h : rStp (rSt e w t c2 c4 y y.length) = (.exit 0, rSt e w t c2 c4 y (decN y y.length)) := by
    show rStp ((e, w, t, ()), c2, c4, (y, y.length), ()) = _
    unfold rStp
    simp only
    rw [blt_no (Nat.lt_irrefl _)]
    rfl
  rw [rr_end (by rw [h]; intro h2; cases h2), h]
/-- A printed command is read as it was. -/
theorem r_print {c : DCmd} (h : crightF c = true) : (rRun (rSt 0 0 [] (0, 0, 0) (0, 0, 0) (cprintT c ++ [32]) 0)).1 = .exit 0 ∧ (rRun (rSt 0 0 [] (0, 0, 0) (0, 0, 0) (cprintT c ++ [32]) 0)).2.2.2.1 = c := by
  obtain ⟨h0, h1, h2⟩ := cright_of h
  have hk : c.1 = 1 ∨ c.1 = 2 ∨ c.1 = 3 ∨ c.1 = 4 := by rcases h2 with h2 | h2 | h2 | h2 <;> omega
  obtain ⟨hk1, hk2⟩ := wordK_low hk
  have hlen := cprint_len h
  have hp0 : rPre (rSt 0 0 [] (0, 0, 0) (0, 0, 0) (cprintT c ++ [32]) 0) := ⟨by simp [rSt]; omega, Nat.zero_le _, Nat.zero_le _, Int.le_refl _, Int.le_refl _, Int.le_refl _, by simp [rSt]⟩
  -- behind the first word and the second
  have two : ∀ q, cprintT c ++ [32] = wordK c.1 ++ (32 :: ([letF c.2.1] ++ (32 :: q))) →
      rPre (rSt 0 2 [] (0, 0, 0) (c.1, c.2.1, 0) (cprintT c ++ [32]) (((wordK c.1 ++ [32]) ++ [letF c.2.1]) ++ [32]).length) ∧
      rRun (rSt 0 0 [] (0, 0, 0) (0, 0, 0) (cprintT c ++ [32]) 0) = rRun (rSt 0 2 [] (0, 0, 0) (c.1, c.2.1, 0) (cprintT c ++ [32]) (((wordK c.1 ++ [32]) ++ [letF c.2.1]) ++ [32]).length) := by
    intro q hy
    generalize cprintT c ++ [32] = y at hp0 hy ⊢
    have y1 : y = [] ++ (wordK c.1 ++ (32 :: ([letF c.2.1] ++ (32 :: q)))) := by rw [hy]; rfl
    have s1 := r_word (e := 0) (w := 0) (c2 := (0, 0, 0)) (c4 := (0, 0, 0)) (p := []) (a := wordK c.1) (q := 32 :: ([letF c.2.1] ++ (32 :: q))) (by rw [← y1]; exact hp0) hk1
    rw [← y1] at s1
    simp only [List.length_nil, Nat.zero_add] at s1
    have b1 : byteAt y (wordK c.1).length = 32 := by
      rw [hy]
      have := byte_app (p := wordK c.1) (q := 32 :: ([letF c.2.1] ++ (32 :: q))) (i := 0)
      rw [Nat.add_zero] at this
      rw [this]
      rfl
    have l1 : (wordK c.1).length < y.length := by rw [hy]; simp
    obtain ⟨g1, g2⟩ := rr_go s1.1 (r_blank0 l1 b1)
    rw [hk2] at g1 g2
    have y2 : y = (wordK c.1 ++ [32]) ++ ([letF c.2.1] ++ (32 :: q)) := by rw [hy]; simp
    have e1 : (wordK c.1 ++ [32]).length = (wordK c.1).length + 1 := by simp
    have s2 := r_word (e := 0) (w := 1) (c2 := (0, 0, 0)) (c4 := (c.1, 0, 0)) (p := wordK c.1 ++ [32]) (a := [letF c.2.1]) (q := 32 :: q) (by rw [← y2, e1]; exact g1) (let_low h0 h1)
    rw [← y2, ← List.length_append, e1] at s2
    have y3 : y = ((wordK c.1 ++ [32]) ++ [letF c.2.1]) ++ (32 :: q) := by rw [hy]; simp
    have b2 : byteAt y ((wordK c.1 ++ [32]) ++ [letF c.2.1]).length = 32 := by
      have := byte_app (p := (wordK c.1 ++ [32]) ++ [letF c.2.1]) (q := 32 :: q) (i := 0)
      rw [Nat.add_zero, ← y3] at this
      rw [this]
      rfl
    have l2 : ((wordK c.1 ++ [32]) ++ [letF c.2.1]).length < y.length := by
      have := congrArg List.length y3
      rw [this]; simp
    obtain ⟨g3, g4⟩ := rr_go s2.1 (r_blank1 l2 b2 h0 h1)
    have e3 : ((wordK c.1 ++ [32]) ++ [letF c.2.1]).length + 1 = (((wordK c.1 ++ [32]) ++ [letF c.2.1]) ++ [32]).length := by simp
    rw [e3] at g3 g4
    exact ⟨g3, s1.2.trans (g2.trans (s2.2.trans g4))⟩
  rcases cprint_parts h with ⟨e, e2⟩ | ⟨e, e2, e3⟩
  · have hy : cprintT c ++ [32] = wordK c.1 ++ (32 :: ([letF c.2.1] ++ (32 :: []))) := by rw [e]; simp
    obtain ⟨g1, g2⟩ := two [] hy
    rw [g2]
    have hl : (((wordK c.1 ++ [32]) ++ [letF c.2.1]) ++ [32]).length = (cprintT c ++ [32]).length := by rw [hy]; simp
    rw [hl, r_over]
    exact ⟨rfl, by show (c.1, c.2.1, (0 : Int)) = c; rw [← e2]⟩
  · have hy : cprintT c ++ [32] = wordK c.1 ++ (32 :: ([letF c.2.1] ++ (32 :: (natT c.2.2.toNat ++ [32])))) := by rw [e]; simp
    obtain ⟨g1, g2⟩ := two _ hy
    rw [g2]
    have hlen2 : (cprintT c ++ [32]).length = (((wordK c.1 ++ [32]) ++ [letF c.2.1]) ++ [32]).length + (natT c.2.2.toNat).length + 1 := by rw [hy]; simp; omega
    generalize cprintT c ++ [32] = y at hy g1 hlen2 ⊢
    have y4 : y = (((wordK c.1 ++ [32]) ++ [letF c.2.1]) ++ [32]) ++ (natT c.2.2.toNat ++ [32]) := by rw [hy]; simp
    have s3 := r_word (e := 0) (w := 2) (c2 := (0, 0, 0)) (c4 := (c.1, c.2.1, 0)) (p := ((wordK c.1 ++ [32]) ++ [letF c.2.1]) ++ [32]) (a := natT c.2.2.toNat) (q := [32]) (by rw [← y4]; exact g1) dig_low
    rw [← y4, ← List.length_append] at s3
    rw [s3.2]
    have y5 : y = ((((wordK c.1 ++ [32]) ++ [letF c.2.1]) ++ [32]) ++ natT c.2.2.toNat) ++ [32] := by rw [hy]; simp
    have b3 : byteAt y ((((wordK c.1 ++ [32]) ++ [letF c.2.1]) ++ [32]) ++ natT c.2.2.toNat).length = 32 := by
      have := byte_app (p := (((wordK c.1 ++ [32]) ++ [letF c.2.1]) ++ [32]) ++ natT c.2.2.toNat) (q := [32]) (i := 0)
      rw [Nat.add_zero, ← y5] at this
      rw [this]
      rfl
    have hl3 : ((((wordK c.1 ++ [32]) ++ [letF c.2.1]) ++ [32]) ++ natT c.2.2.toNat).length = (((wordK c.1 ++ [32]) ++ [letF c.2.1]) ++ [32]).length + (natT c.2.2.toNat).length := List.length_append
    obtain ⟨e', c2', hs⟩ := r_blank2 (e := 0) (c2 := (0, 0, 0)) (k := c.1) (nd := c.2.1) (by rw [hlen2, hl3]; omega) b3 e2 e3
    obtain ⟨g5, g6⟩ := rr_go s3.1 hs
    rw [g6]
    have hl : ((((wordK c.1 ++ [32]) ++ [letF c.2.1]) ++ [32]) ++ natT c.2.2.toNat).length + 1 = y.length := by rw [hlen2, hl3]
    rw [hl, r_over]
    exact ⟨rfl, rfl⟩
/-! Digits -/
theorem digF_nat {n : Int} (h : 0 ≤ n) : digF n = natT n.toNat := by
  unfold digF
  rw [decide_eq_false (by omega)]
  rfl
theorem digs_low {x : Int} (h : x < 10) : bytesToStr [IntKind.wrap IntKind.u8 (IntKind.wrap IntKind.i64 ((48 : Int) + if (0 : Int) < x then x else 0))] = natT x.toNat := by
  by_cases h0 : 0 < x
  · rw [if_pos h0, dig_one (by omega) h, digF_nat (by omega)]
  · rw [if_neg h0, show x.toNat = 0 by omega]
    decide +kernel
theorem digs_quo {x : Int} (h0 : ¬ x < 10) (h1 : x ≤ 9223372036854775807) : IntKind.wrap IntKind.i64 (Int.tdiv x (10 : Int)) = x / 10 := by
  rw [Int.tdiv_eq_ediv_of_nonneg (by omega)]
  exact i64_id (by omega) (by omega)
theorem digs_more {x : Int} (h0 : ¬ x < 10) (h1 : x ≤ 9223372036854775807) : natT (IntKind.wrap IntKind.i64 (Int.tdiv x (10 : Int))).toNat ++ bytesToStr [IntKind.wrap IntKind.u8 (IntKind.wrap IntKind.i64 ((48 : Int) + Int.tmod x (10 : Int)))] = natT x.toNat := by
  have h := dig_more h0 h1
  rw [digF_nat (n := x) (by omega), digF_nat (by rw [digs_quo h0 h1]; omega)] at h
  exact h
/-- What the reading comes to. -/
theorem r_whole {s : List UInt8} (hl : ¬ (s.length : Int) > 40) {r : Ex × RS} (hr : rRun (rSt 0 0 [] (0, 0, 0) (0, 0, 0) (s ++ [32]) 0) = r) :
    (isRet r.1 = true → (r.2.2.1, r.2.1.1) = cparseF s) ∧ (isRet r.1 = false → ((bif (cprintF r.2.2.2.1).2 != (0 : Int) then true else !((cprintF r.2.2.2.1).1 == s)) = true → ((0, 0, 0), 3) = cparseF s) ∧
      ((bif (cprintF r.2.2.2.1).2 != (0 : Int) then true else !((cprintF r.2.2.2.1).1 == s)) = false → (r.2.2.2.1, 0) = cparseF s)) := by
  have hp : rPre (rSt 0 0 [] (0, 0, 0) (0, 0, 0) (s ++ [32]) 0) := ⟨by simp [rSt]; omega, Nat.zero_le _, Nat.zero_le _, Int.le_refl _, Int.le_refl _, Int.le_refl _, by simp [rSt]⟩
  have hret := rr_ret hp
  have hpr : ∀ c, crightF c = true → cprintT c = s → r.1 = .exit 0 ∧ r.2.2.2.1 = c := fun c hc e => by
    have := r_print hc
    rw [e, hr] at this
    exact this
  rw [hr] at hret
  refine ⟨fun h => ?_, fun h => ⟨fun hc => ?_, fun hc => ?_⟩⟩
  · rw [(hret.1 h).1, (hret.1 h).2]
    refine (cparse_none hl fun c hc e => ?_).symm
    rw [(hpr c hc e).1] at h
    cases h
  · refine (cparse_none hl fun c hc2 e => ?_).symm
    rw [(hpr c hc2 e).2] at hc
    unfold cprintF at hc
    rw [hc2, e] at hc
    simp at hc
  · have hcr : crightF r.2.2.2.1 = true := by
      cases hcr : crightF r.2.2.2.1 with
      | true => rfl
      | false =>
        unfold cprintF at hc
        rw [hcr] at hc
        cases hc
    have he : cprintT r.2.2.2.1 = s := by
      unfold cprintF at hc
      rw [hcr] at hc
      simpa using hc
    rw [← he, cparse_print hcr]
end Go.Ev
/- Equality of values, told as equality. -/
set_option linter.unusedVariables false
namespace Go.Ev
theorem geq_go_self {α : Type} {f : α → α → Bool} (h : ∀ x, f x x = true) : ∀ l : List α, geq.go f l l = true
  | [] => rfl
  | x :: l => by rw [geq_go_cons, h, geq_go_self h l]; rfl
theorem geq_self : ∀ (g : GTy) (x : den g), cmp g = true → geq g x x = true
  | .bool, x, _ => by simp [geq]
  | .int _, x, _ => by simp [geq]
  | .str, x, _ => by simp [geq]
  | .unit, _, _ => rfl
  | .prod a b, x, h => by
    have h' : (cmp a && cmp b) = true := h
    rw [Bool.and_eq_true] at h'
    show (geq a x.1 x.1 && geq b x.2 x.2) = true
    rw [geq_self a _ h'.1, geq_self b _ h'.2]; rfl
  | .arr n a, x, h => geq_go_self (fun y => geq_self a y h) x
  | .sl _, _, h => by cases h
  | .err, _, h => by cases h
theorem geq_go_eq {α : Type} {f : α → α → Bool} {p : α → Prop} (h : ∀ x y, p x → p y → f x y = true → x = y) :
    ∀ l m : List α, l.length = m.length → (∀ x ∈ l, p x) → (∀ x ∈ m, p x) → geq.go f l m = true → l = m
  | [], [], _, _, _, _ => rfl
  | [], _ :: _, e, _, _, _ => by cases e
  | _ :: _, [], e, _, _, _ => by cases e
  | x :: l, y :: m, e, hl, hm, g => by
    rw [geq_go_cons, Bool.and_eq_true] at g
    rw [h x y (hl x (List.mem_cons_self ..)) (hm y (List.mem_cons_self ..)) g.1,
      geq_go_eq h l m (by simpa using e) (fun z hz => hl z (List.mem_cons_of_mem _ hz)) (fun z hz => hm z (List.mem_cons_of_mem _ hz)) g.2]
theorem geq_eq : ∀ (g : GTy) (x y : den g), cmp g = true → wt g x → wt g y → geq g x y = true → x = y
  | .bool, x, y, _, _, _, h => by simpa [geq] using h
  | .int _, x, y, _, _, _, h => by simpa [geq] using h
  | .str, x, y, _, _, _, h => by simpa [geq] using h
  | .unit, _, _, _, _, _, _ => rfl
  | .prod a b, x, y, c, hx, hy, h => by
    have c' : (cmp a && cmp b) = true := c
    rw [Bool.and_eq_true] at c'
    have h' : (geq a x.1 y.1 && geq b x.2 y.2) = true := h
    rw [Bool.and_eq_true] at h'
    exact Prod.ext (geq_eq a _ _ c'.1 hx.1 hy.1 h'.1) (geq_eq b _ _ c'.2 hx.2 hy.2 h'.2)
  | .arr n a, x, y, c, hx, hy, h => geq_go_eq (p := wt a) (fun u v hu hv g => geq_eq a u v c hu hv g) x y (hx.1.trans hy.1.symm) hx.2 hy.2 h
  | .sl _, _, _, c, _, _, _ => by cases c
  | .err, _, _, c, _, _, _ => by cases c
end Go.Ev
