/- What is printed of a configuration is parsed. -/
import Derived.Lib.Index
import Derived.Test.YtohodbfoeejbjaaDoorTextConfAll7

set_option linter.unusedVariables false
set_option linter.unusedSimpArgs false
namespace Go.Ev
/-! Back -/
theorem digN_not (b : UInt8) (hb : b.toNat < 48) (n : Nat) : b ∉ natT n := fun h => by
  have := digN_no 20 n b h
  omega
theorem numP_nat {n : Int} (h0 : 0 ≤ n) (h1 : n ≤ 1073741824) : numP (natT n.toNat) = n := by
  have hb : n.toNat < 10 ^ 20 := by
    have : (10 : Nat) ^ 20 = 100000000000000000000 := by decide
    omega
  have hg : numGo 1073741824 (natT n.toNat) 0 = some (n.toNat : Int) := num_digits 20 n.toNat hb (by omega) (by omega)
  have hne : (natT n.toNat == []) = false := by
    have := digN_ne 20 n.toNat (by omega)
    simpa [natT] using this
  have := numP_some (s := natT n.toNat) (by rw [hne, lz_digits hb]; rfl) hg
  rw [this.1]
  omega
theorem let_node {j : Int} (h0 : 0 ≤ j) (h1 : j < 16) : nodeBad [letF j] = false ∧ nodeP [letF j] = j := by
  obtain ⟨_, e2, e3, _, e5⟩ := one_text h0 h1
  unfold nodeBad nodeP
  rw [e2]
  simp only
  rw [e5]
  exact ⟨rfl, e3⟩
theorem let_ten {j : Int} (h0 : 0 ≤ j) (h1 : j < 16) : letF j ≠ 10 :=
  node_cases (p := fun j => letF j ≠ 10) h0 h1 (by refine ⟨?_, ?_, ?_, ?_, ?_, ?_, ?_, ?_, ?_, ?_, ?_, ?_, ?_, ?_, ?_, ?_⟩ <;> decide)
def lnkT (c : DCosts) (j : Int) : List UInt8 := wLink ++ 32 :: ([letF j] ++ 32 :: natT (c.2.getD j.toNat 0).toNat)
theorem lineB_lnk {c : DCosts} {j : Int} (h0 : 0 ≤ j) (h1 : j < 16) : lineB c j = lnkT c j ++ [10] := by
  unfold lineB lnkT wLink
  rw [(one_text h0 h1).1]
  simp only [List.append_assoc, List.cons_append, List.nil_append]
theorem lnk_words {c : DCosts} {j : Int} (h0 : 0 ≤ j) (h1 : j < 16) : wordsF (lnkT c j) = [wLink, [letF j], natT (c.2.getD j.toNat 0).toNat] := by
  have hl := (one_text h0 h1).2.2.2.1
  unfold wordsF lnkT
  rw [words_cons wLink [] _ (by decide), words_cons [letF j] [] _ (by intro b hb; rw [List.mem_singleton.1 hb]; exact hl), words_end _ [] (by
    intro b hb e
    rw [e] at hb
    exact digN_not 32 (by decide) _ hb)]
  rfl
theorem lnk_ten {c : DCosts} {j : Int} (h0 : 0 ≤ j) (h1 : j < 16) : (10 : UInt8) ∉ lnkT c j := by
  unfold lnkT
  intro h
  simp only [List.mem_append, List.mem_cons, List.not_mem_nil, or_false] at h
  rcases h with h | h | h | h | h
  · revert h; decide
  · revert h; decide
  · exact let_ten h0 h1 h.symm
  · revert h; decide
  · exact digN_not 10 (by decide) _ h
theorem par_link {c : DCosts} {j : Int} (h0 : 0 ≤ j) (h1 : j < 16) (hr : rcostF (c.2.getD j.toNat 0) = true) (a : DConf) (q : List UInt8) (n : Int) : parGo (lineB c j ++ q) [] n a = parGo q [] (n + 1) (a.1, a.2.1, addC c a.2.2 j) := by
  have hc := rcost_in hr
  rw [lineB_lnk h0 h1, List.append_assoc]
  show parGo (lnkT c j ++ 10 :: q) [] n a = _
  rw [par_line _ _ _ _ _ (lnk_ten h0 h1), List.nil_append, lnk_words h0 h1]
  have hA : isLine [wLink, [letF j], natT (c.2.getD j.toNat 0).toNat] wNode 2 = false := rfl
  have hB : isLine [wLink, [letF j], natT (c.2.getD j.toNat 0).toNat] wRules 5 = false := rfl
  have hC : isLine [wLink, [letF j], natT (c.2.getD j.toNat 0).toNat] wLink 3 = true := rfl
  obtain ⟨b1, b2⟩ := lb_link (c := a) hA hB hC
  obtain ⟨g1, g2⟩ := let_node h0 h1
  have e2 : ([wLink, [letF j], natT (c.2.getD j.toNat 0).toNat].getD 1 []) = [letF j] := rfl
  have e3 : ([wLink, [letF j], natT (c.2.getD j.toNat 0).toNat].getD 2 []) = natT (c.2.getD j.toNat 0).toNat := rfl
  have hn := numP_nat (n := c.2.getD j.toNat 0) (by omega) (by omega)
  have hs : setP a [wLink, [letF j], natT (c.2.getD j.toNat 0).toNat] = (addC c a.2.2 j, 0) := by
    unfold setP
    rw [e2, e3, hn, g2, u32_id (by omega) (by omega)]
    exact set_add h0 h1 hr
  rw [b1, b2, e2, e3, hn, g1, hs, show negP (c.2.getD j.toNat 0) = false from decide_eq_false (by omega), decide_eq_false (show ¬ c.2.getD j.toNat 0 > 65536 by omega)]
  rfl
theorem par_links {c : DCosts} : ∀ (l : List Int) (a : DConf) (n : Int), (∀ j ∈ l, 0 ≤ j ∧ j < 16 ∧ rcostF (c.2.getD j.toNat 0) = true) → parGo (linesB c l) [] n a = ((a.1, a.2.1, l.foldl (addC c) a.2.2), 0, 0)
  | [], a, n, _ => rfl
  | j :: l, a, n, h => by
    obtain ⟨h0, h1, h2⟩ := h j (by simp)
    rw [lines_cons, par_link h0 h1 h2, par_links l _ _ (fun i hi => h i (by simp [hi]))]
    rfl
def nodeT (n : Int) : List UInt8 := wNode ++ 32 :: [letF n]
def ruleT (r : DRules) : List UInt8 := wRules ++ 32 :: (natT r.1.toNat ++ 32 :: (natT r.2.1.toNat ++ 32 :: (natT r.2.2.1.toNat ++ 32 :: natT r.2.2.2.toNat)))
theorem head_lines {c : DConf} (h0 : 0 ≤ c.1) (h1 : c.1 < 16) (b1 : numBad c.2.1.1 = false) (b2 : numBad c.2.1.2.1 = false) (b3 : numBad c.2.1.2.2.1 = false) (b4 : numBad c.2.1.2.2.2 = false) : headT c = nodeT c.1 ++ 10 :: (ruleT c.2.1 ++ [10]) := by
  rw [← head_text b1 b2 b3 b4]
  unfold nodeT ruleT wNode wRules
  rw [(one_text h0 h1).1]
  simp only [List.append_assoc, List.cons_append, List.nil_append]
theorem node_line {n : Int} (h0 : 0 ≤ n) (h1 : n < 16) (a : DConf) (q : List UInt8) (k : Int) : parGo (nodeT n ++ 10 :: q) [] k a = parGo q [] (k + 1) (n, a.2) := by
  have hten : (10 : UInt8) ∉ nodeT n := by
    unfold nodeT
    intro h
    simp only [List.mem_append, List.mem_cons, List.not_mem_nil, or_false] at h
    rcases h with h | h | h
    · revert h; decide
    · revert h; decide
    · exact let_ten h0 h1 h.symm
  have hw : wordsF (nodeT n) = [wNode, [letF n]] := by
    unfold wordsF nodeT
    rw [words_cons wNode [] _ (by decide), words_end _ [] (by intro b hb; rw [List.mem_singleton.1 hb]; exact (one_text h0 h1).2.2.2.1)]
    rfl
  rw [par_line _ _ _ _ _ hten, List.nil_append, hw]
  have hA : isLine [wNode, [letF n]] wNode 2 = true := rfl
  obtain ⟨c1, c2⟩ := lb_node (c := a) hA
  obtain ⟨g1, g2⟩ := let_node h0 h1
  have e2 : ([wNode, [letF n]].getD 1 []) = [letF n] := rfl
  rw [c1, c2, e2, g1, g2]
  rfl
theorem rule_line {r : DRules} (b1 : numBad r.1 = false) (b2 : numBad r.2.1 = false) (b3 : numBad r.2.2.1 = false) (b4 : numBad r.2.2.2 = false) (a : DConf) (q : List UInt8) (k : Int) : parGo (ruleT r ++ 10 :: q) [] k a = parGo q [] (k + 1) (a.1, r, a.2.2) := by
  have hten : (10 : UInt8) ∉ ruleT r := by
    unfold ruleT
    intro h
    simp only [List.mem_append, List.mem_cons] at h
    rcases h with h | h | h | h | h | h | h | h | h
    · revert h; decide
    · revert h; decide
    · exact digN_not 10 (by decide) _ h
    · revert h; decide
    · exact digN_not 10 (by decide) _ h
    · revert h; decide
    · exact digN_not 10 (by decide) _ h
    · revert h; decide
    · exact digN_not 10 (by decide) _ h
  have hd : ∀ n : Nat, ∀ b ∈ natT n, b ≠ 32 := fun n b hb e => by
    rw [e] at hb
    exact digN_not 32 (by decide) n hb
  have hw : wordsF (ruleT r) = [wRules, natT r.1.toNat, natT r.2.1.toNat, natT r.2.2.1.toNat, natT r.2.2.2.toNat] := by
    unfold wordsF ruleT
    rw [words_cons wRules [] _ (by decide), words_cons _ [] _ (hd _), words_cons _ [] _ (hd _), words_cons _ [] _ (hd _), words_end _ [] (hd _)]
    rfl
  rw [par_line _ _ _ _ _ hten, List.nil_append, hw]
  have q1 := numBad_no b1
  have q2 := numBad_no b2
  have q3 := numBad_no b3
  have q4 := numBad_no b4
  have hA : isLine [wRules, natT r.1.toNat, natT r.2.1.toNat, natT r.2.2.1.toNat, natT r.2.2.2.toNat] wNode 2 = false := rfl
  have hB : isLine [wRules, natT r.1.toNat, natT r.2.1.toNat, natT r.2.2.1.toNat, natT r.2.2.2.toNat] wRules 5 = true := rfl
  obtain ⟨c1, c2⟩ := lb_rules (c := a) hA hB
  have e : rulesP [wRules, natT r.1.toNat, natT r.2.1.toNat, natT r.2.2.1.toNat, natT r.2.2.2.toNat] = r := by
    show (numP (natT r.1.toNat), numP (natT r.2.1.toNat), numP (natT r.2.2.1.toNat), numP (natT r.2.2.2.toNat)) = r
    rw [numP_nat q1.1 q1.2, numP_nat q2.1 q2.2, numP_nat q3.1 q3.2, numP_nat q4.1 q4.2]
  rw [c1, c2, e, show negP r.1 = false from decide_eq_false (by omega), show negP r.2.1 = false from decide_eq_false (by omega), show negP r.2.2.1 = false from decide_eq_false (by omega), show negP r.2.2.2 = false from decide_eq_false (by omega)]
  rfl
theorem linesB_len (c : DCosts) : ∀ l : List Int, (linesB c l).length ≤ 60 * l.length
  | [] => by simp [linesB]
  | j :: l => by
    have h1 := lineB_len c j
    have h2 := linesB_len c l
    rw [lines_cons, List.length_append, List.length_cons]
    omega
theorem print_cases {c : DConf} (h : ((printF c).2 == (0 : Int)) = true) : (0 ≤ c.1 ∧ c.1 < 16) ∧ soundF c.2.2 = true ∧ (numBad c.2.1.1 = false ∧ numBad c.2.1.2.1 = false ∧ numBad c.2.1.2.2.1 = false ∧ numBad c.2.1.2.2.2 = false) ∧ printF c = (headT c ++ linesB c.2.2 (elemsF c.2.2.1 16), 0) := by
  cases h1 : rightF c.1 with
  | false => unfold printF at h; rw [h1] at h; cases h
  | true =>
    cases h2 : soundF c.2.2 with
    | false => unfold printF at h; rw [h1, h2] at h; cases h
    | true =>
      have hA : (bif !rightF c.1 then true else !soundF c.2.2) = false := by rw [h1, h2]; rfl
      cases h3 : rulesBad c.2.1 with
      | true => unfold printF at h; rw [hA, h3] at h; cases h
      | false =>
        refine ⟨rightF_iff.1 h1, rfl, ?_, (print_good hA h3).symm⟩
        unfold rulesBad at h3
        cases g1 : numBad c.2.1.1 <;> cases g2 : numBad c.2.1.2.1 <;> cases g3 : numBad c.2.1.2.2.1 <;> cases g4 : numBad c.2.1.2.2.2 <;> rw [g1, g2, g3, g4] at h3 <;> first | (cases h3; done) | exact ⟨rfl, rfl, rfl, rfl⟩
/-- What is printed is parsed. -/
theorem print_parse {c : DConf} (hl : c.2.2.2.length = 16) (h : ((printF c).2 == (0 : Int)) = true) : parseF (printF c).1 = (c, 0, 0) := by
  obtain ⟨⟨n0, n1⟩, hs, ⟨b1, b2, b3, b4⟩, hp⟩ := print_cases h
  have hsnd : sndP c.2.2 := ⟨hs, hl⟩
  have hpar : parGo (headT c ++ linesB c.2.2 (elemsF c.2.2.1 16)) [] 1 zeroConf = (c, 0, 0) := by
    rw [head_lines n0 n1 b1 b2 b3 b4, List.append_assoc, List.cons_append, List.append_assoc]
    rw [node_line n0 n1]
    show parGo (ruleT c.2.1 ++ 10 :: linesB c.2.2 (elemsF c.2.2.1 16)) [] _ _ = _
    rw [rule_line b1 b2 b3 b4, par_links _ _ _ (sound_in hsnd)]
    show ((c.1, c.2.1, (elemsF c.2.2.1 16).foldl (addC c.2.2) zeroC), (0 : Int), (0 : Int)) = _
    rw [sound_fold hsnd]
  have hlen : ¬ ((headT c ++ linesB c.2.2 (elemsF c.2.2.1 16)).length : Int) > 2000 := by
    have h1 := linesB_len c.2.2 (elemsF c.2.2.1 16)
    have h2 := elems_len c.2.2.1 16
    have h3 : (headT c).length ≤ 120 := by
      have q1 := itoaF_len c.2.1.1
      have q2 := itoaF_len c.2.1.2.1
      have q3 := itoaF_len c.2.1.2.2.1
      have q4 := itoaF_len c.2.1.2.2.2
      unfold headT
      rw [(one_text n0 n1).1]
      simp only [List.length_append, List.length_cons, List.length_nil]
      omega
    rw [List.length_append]
    omega
  have hok : parEnd (headT c ++ linesB c.2.2 (elemsF c.2.2.1 16)) (c, 0, 0) = (c, 0, 0) := by
    unfold parEnd
    simp only
    rw [hp]
    simp
  rw [hp]
  unfold parseF
  rw [decide_eq_false hlen, hpar]
  exact hok
end Go.Ev
/- Several configurations as one text, in plain Lean. -/
set_option linter.unusedVariables false
set_option linter.unusedSimpArgs false
namespace Go.Ev
theorem head_len {c : DConf} (h : rightF c.1 = true) : (headT c).length ≤ 120 := by
  have q1 := itoaF_len c.2.1.1
  have q2 := itoaF_len c.2.1.2.1
  have q3 := itoaF_len c.2.1.2.2.1
  have q4 := itoaF_len c.2.1.2.2.2
  have q5 := textN_len (withF 0 c.1)
  unfold headT
  simp only [List.length_append, List.length_cons, List.length_nil]
  omega
theorem printF_len (c : DConf) : (printF c).1.length ≤ 1100 := by
  unfold printF
  cases h : (bif !rightF c.1 then true else !soundF c.2.2) with
  | true => exact Nat.zero_le _
  | false =>
    cases h2 : rulesBad c.2.1 with
    | true => exact Nat.zero_le _
    | false =>
      have hr : rightF c.1 = true := by
        cases hr : rightF c.1 with
        | true => rfl
        | false => rw [hr] at h; cases h
      have h1 := linesB_len c.2.2 (elemsF c.2.2.1 16)
      have h2 := elems_len c.2.2.1 16
      have h3 := head_len hr
      show (headT c ++ linesB c.2.2 (elemsF c.2.2.1 16)).length ≤ 1100
      rw [List.length_append]
      omega
abbrev PaS := (List DConf × List UInt8 × Int × List UInt8 × List DConf × Int × Int × Unit) × Unit
/-- Does it not rise here? -/
def paBad (l : List DConf) (i : Int) (c : DConf) : Bool := bif decide (i > 0) then decide (c.1 ≤ (l.getD (i - 1).toNat zeroConf).1) else false
def paStp (x : PaS) : Ex × PaS :=
  let i := x.1.2.2.2.2.2.2.1
  let c := x.1.2.2.2.2.1.getD i.toNat zeroConf
  bif decide (i < x.1.2.2.2.2.2.1) then
    bif paBad x.1.1 i c then (.ret, ((x.1.1, [], 10, x.1.2.2.2.1, x.1.2.2.2.2.1, x.1.2.2.2.2.2.1, i, ()), ()))
    else bif (printF c).2 != 0 then (.ret, ((x.1.1, [], (printF c).2, x.1.2.2.2.1, x.1.2.2.2.2.1, x.1.2.2.2.2.2.1, i, ()), ()))
    else (.normal, ((x.1.1, x.1.2.1, x.1.2.2.1, x.1.2.2.2.1 ++ (printF c).1, x.1.2.2.2.2.1, x.1.2.2.2.2.2.1, i + 1, ()), ()))
  else (.exit 0, x)
theorem paStp_ends (x : PaS) : (paStp x).1 = .normal ∨ (paStp x).1 = .exit 0 ∨ (paStp x).1 = .ret := by
  unfold paStp
  simp only
  cases decide (x.1.2.2.2.2.2.2.1 < x.1.2.2.2.2.2.1) with
  | false => exact .inr (.inl rfl)
  | true =>
    cases paBad x.1.1 x.1.2.2.2.2.2.2.1 (x.1.2.2.2.2.1.getD x.1.2.2.2.2.2.2.1.toNat zeroConf) with
    | true => exact .inr (.inr rfl)
    | false =>
      cases (printF (x.1.2.2.2.2.1.getD x.1.2.2.2.2.2.2.1.toNat zeroConf)).2 != 0 with
      | true => exact .inr (.inr rfl)
      | false => exact .inl rfl
def paMu (x : PaS) : Nat := (x.1.2.2.2.2.2.1 - x.1.2.2.2.2.2.2.1).toNat
def paPre (x : PaS) : Prop := 0 ≤ x.1.2.2.2.2.2.2.1 ∧ x.1.2.2.2.2.2.2.1 ≤ x.1.2.2.2.2.2.1 ∧ x.1.2.2.2.2.2.1 = x.1.2.2.2.2.1.length ∧ x.1.2.2.2.2.2.1 ≤ 8 ∧ x.1.1 = x.1.2.2.2.2.1 ∧ (x.1.2.2.2.1.length : Int) ≤ 1100 * x.1.2.2.2.2.2.2.1
/-- Printed one by one, each above the one before. -/
def paGo (p : Option Int) (o : List UInt8) : List DConf → List UInt8 × Int
  | [] => (o, 0)
  | c :: l => bif p.any (fun v => decide (c.1 ≤ v)) then ([], 10) else bif (printF c).2 != 0 then ([], (printF c).2) else paGo (some c.1) (o ++ (printF c).1) l
def paF (l : List DConf) : List UInt8 × Int := bif decide ((l.length : Int) > 8) then ([], 4) else paGo none [] l
theorem pa_go {x : PaS} (hp : paPre x) (hn : (paStp x).1 = .normal) : paPre (paStp x).2 ∧ paMu (paStp x).2 < paMu x := by
  obtain ⟨⟨l0, r, e, o, l, n, i, ⟨⟩⟩, ⟨⟩⟩ := x
  obtain ⟨h1, h2, h3, h4, h5, h6⟩ := hp
  simp only at h1 h2 h3 h4 h5 h6
  unfold paStp at hn ⊢
  simp only at hn ⊢
  by_cases hi : i < n
  · rw [decide_eq_true hi] at hn ⊢
    simp only [cond_true] at hn ⊢
    cases hb : paBad l0 i (l.getD i.toNat zeroConf) with
    | true => rw [hb] at hn; cases hn
    | false =>
      rw [hb] at hn
      cases he : ((printF (l.getD i.toNat zeroConf)).2 != 0) with
      | true => rw [he] at hn; cases hn
      | false =>
        simp only [cond_false]
        have := printF_len (l.getD i.toNat zeroConf)
        refine ⟨⟨?_, ?_, h3, h4, h5, ?_⟩, ?_⟩
        · show 0 ≤ i + 1; omega
        · show i + 1 ≤ n; omega
        · show ((o ++ (printF (l.getD i.toNat zeroConf)).1).length : Int) ≤ 1100 * (i + 1)
          rw [List.length_append]; omega
        · show (n - (i + 1)).toNat < (n - i).toNat; omega
  · rw [decide_eq_false hi] at hn; cases hn
theorem drop_any {α : Type} {l : List α} (d : α) {i : Int} (h0 : 0 ≤ i) (h1 : i < l.length) : l.drop i.toNat = l.getD i.toNat d :: l.drop (i + 1).toNat := by
  have hlt : i.toNat < l.length := by omega
  rw [List.drop_eq_getElem_cons hlt, show (i + 1).toNat = i.toNat + 1 by omega]
  simp [List.getD, hlt]
def prevF (l : List DConf) (i : Int) : Option Int := bif decide (i > 0) then some (l.getD (i - 1).toNat zeroConf).1 else none
theorem prev_bad (l : List DConf) (i : Int) (c : DConf) : (prevF l i).any (fun v => decide (c.1 ≤ v)) = paBad l i c := by
  unfold prevF paBad
  cases decide (i > 0) <;> rfl
def paEnd (q : Ex × PaS) : List UInt8 × Int := bif isRet q.1 then (q.2.1.2.1, q.2.1.2.2.1) else (q.2.1.2.2.2.1, 0)
theorem pa_run {R : List UInt8 × Int} (n : Nat) (x : PaS) (hp : paPre x) (hR : paGo (prevF x.1.2.2.2.2.1 x.1.2.2.2.2.2.2.1) x.1.2.2.2.1 (x.1.2.2.2.2.1.drop x.1.2.2.2.2.2.2.1.toNat) = R) (hn : paMu x < n) : paEnd (runF paStp n x) = R := by
  refine runF_inv (J := fun x => paPre x ∧ paGo (prevF x.1.2.2.2.2.1 x.1.2.2.2.2.2.2.1) x.1.2.2.2.1 (x.1.2.2.2.2.1.drop x.1.2.2.2.2.2.2.1.toNat) = R) (Post := fun q => paEnd q = R) (μ := paMu) (fun x hx => ⟨fun hn => ?_, fun hn => ?_⟩) n x ⟨hp, hR⟩ hn
  · obtain ⟨hx1, hx2⟩ := hx
    refine ⟨⟨(pa_go hx1 hn).1, ?_⟩, (pa_go hx1 hn).2⟩
    obtain ⟨⟨l0, r, e, o, l, n, i, ⟨⟩⟩, ⟨⟩⟩ := x
    obtain ⟨h1, h2, h3, h4, h5, h6⟩ := hx1
    simp only at h1 h2 h3 h4 h5 h6 hx2
    subst h5
    unfold paStp at hn ⊢
    simp only at hn ⊢
    by_cases hi : i < n
    · rw [decide_eq_true hi] at hn ⊢
      simp only [cond_true] at hn ⊢
      rw [drop_any zeroConf h1 (by omega)] at hx2
      unfold paGo at hx2
      rw [prev_bad] at hx2
      cases hb : paBad l0 i (l0.getD i.toNat zeroConf) with
      | true => rw [hb] at hn; cases hn
      | false =>
        rw [hb] at hn hx2
        cases he : ((printF (l0.getD i.toNat zeroConf)).2 != 0) with
        | true => rw [he] at hn; cases hn
        | false =>
          rw [he] at hx2
          simp only [cond_false] at hx2 ⊢
          have e1 : prevF l0 (i + 1) = some (l0.getD i.toNat zeroConf).1 := by
            unfold prevF
            rw [decide_eq_true (show i + 1 > 0 by omega), show i + 1 - 1 = i by omega]
            rfl
          rw [e1]
          exact hx2
    · rw [decide_eq_false hi] at hn; cases hn
  · obtain ⟨hx1, hx2⟩ := hx
    obtain ⟨⟨l0, r, e, o, l, n, i, ⟨⟩⟩, ⟨⟩⟩ := x
    obtain ⟨h1, h2, h3, h4, h5, h6⟩ := hx1
    simp only at h1 h2 h3 h4 h5 h6 hx2
    subst h5
    unfold paStp at hn ⊢
    simp only at hn ⊢
    by_cases hi : i < n
    · rw [decide_eq_true hi] at hn ⊢
      simp only [cond_true] at hn ⊢
      rw [drop_any zeroConf h1 (by omega)] at hx2
      unfold paGo at hx2
      rw [prev_bad] at hx2
      cases hb : paBad l0 i (l0.getD i.toNat zeroConf) with
      | true => rw [hb] at hx2; exact hx2
      | false =>
        rw [hb] at hn hx2
        cases he : ((printF (l0.getD i.toNat zeroConf)).2 != 0) with
        | true => rw [he] at hx2; exact hx2
        | false => rw [he] at hn; exact absurd rfl hn
    · rw [decide_eq_false hi]
      rw [List.drop_eq_nil_of_le (by omega)] at hx2
      exact hx2
theorem pa_all {l : List DConf} (h : ¬ (l.length : Int) > 8) : paPre ((l, [], 0, [], l, l.length, 0, ()), ()) ∧ paEnd (runF paStp (paMu ((l, [], 0, [], l, l.length, 0, ()), ()) + 1) ((l, [], 0, [], l, l.length, 0, ()), ())) = paF l := by
  have hp : paPre ((l, [], 0, [], l, l.length, 0, ()), ()) := ⟨Int.le_refl _, by show (0 : Int) ≤ l.length; omega, rfl, by show (l.length : Int) ≤ 8; omega, rfl, Int.le_refl _⟩
  refine ⟨hp, pa_run _ _ hp ?_ (Nat.lt_succ_self _)⟩
  unfold paF
  rw [decide_eq_false h]
  rfl
end Go.Ev
/- A text of several configurations cut into pieces, in plain Lean. -/
set_option linter.unusedVariables false
set_option linter.unusedSimpArgs false
namespace Go.Ev
def nodeW : List UInt8 := [110, 111, 100, 101, 32]
def beginsF (s : List UInt8) : Bool := nodeW.isPrefixOf s
/-- How long the first piece is. -/
def endF : List UInt8 → Nat
  | [] => 0
  | b :: l => bif l.isEmpty || (b == 10 && beginsF l) then 1 else endF l + 1
theorem end_le : ∀ s : List UInt8, endF s ≤ s.length
  | [] => Nat.le_refl _
  | b :: l => by
    have := end_le l
    unfold endF
    cases l.isEmpty || (b == 10 && beginsF l) with
    | true => show 1 ≤ l.length + 1; omega
    | false => show endF l + 1 ≤ l.length + 1; omega
theorem end_pos : ∀ {s : List UInt8}, s ≠ [] → 0 < endF s
  | [], h => absurd rfl h
  | b :: l, _ => by
    unfold endF
    cases l.isEmpty || (b == 10 && beginsF l) with
    | true => exact Nat.one_pos
    | false => exact Nat.succ_pos _
theorem end_index : ∀ s : List UInt8, ((Lib.index s (10 :: nodeW) < 0 → (s.length : Int) = endF s) ∧ (¬ Lib.index s (10 :: nodeW) < 0 → Lib.index s (10 :: nodeW) + 1 = endF s))
  | [] => ⟨fun _ => rfl, fun h => absurd (by decide) h⟩
  | b :: l => by
    have ih := end_index l
    have hge := Lib.index_ge l (10 :: nodeW)
    unfold Lib.index endF
    have hp : (10 :: nodeW).isPrefixOf (b :: l) = (b == 10 && beginsF l) := by
      show ((10 : UInt8) == b && nodeW.isPrefixOf l) = (b == 10 && nodeW.isPrefixOf l)
      rw [show ((10 : UInt8) == b) = (b == 10) by rw [Bool.eq_iff_iff, beq_iff_eq, beq_iff_eq]; exact eq_comm]
    rw [hp]
    cases hb : (b == 10 && beginsF l) with
    | true =>
      rw [Bool.or_true]
      exact ⟨fun h => absurd (show (0 : Int) < 0 from h) (by decide), fun _ => rfl⟩
    | false =>
      rw [Bool.or_false]
      cases l with
      | nil => exact ⟨fun _ => rfl, fun h => absurd (by decide) h⟩
      | cons c l =>
        simp only [List.isEmpty_cons, cond_false, Bool.false_eq_true, if_false]
        by_cases hi : Lib.index (c :: l) (10 :: nodeW) = -1
        · rw [hi] at ih ⊢
          have := ih.1 (by decide)
          refine ⟨fun _ => ?_, fun h => absurd (by decide) h⟩
          rw [List.length_cons] at this ⊢
          rw [List.length_cons]
          omega
        · have hn : (Lib.index (c :: l) (10 :: nodeW) == -1) = false := by simpa using hi
          rw [hn]
          have h2 := ih.2 (by omega)
          simp only [Bool.false_eq_true, if_false]
          exact ⟨fun h => by omega, fun _ => by omega⟩
theorem idx_le (s sub : List UInt8) : Lib.index s sub ≤ s.length := by
  induction s with
  | nil => unfold Lib.index; split <;> simp
  | cons b l ih =>
    unfold Lib.index
    simp only [List.length_cons]
    split
    · omega
    · split <;> omega
theorem begins_take {s : List UInt8} : (bif decide ((s.length : Int) ≥ 5) then s.take 5 == [110, 111, 100, 101, 32] else false) = beginsF s := by
  unfold beginsF nodeW
  match s with
  | [] => rfl
  | [_] => simp [List.isPrefixOf]
  | [_, _] => simp [List.isPrefixOf]
  | [_, _, _] => simp [List.isPrefixOf]
  | [_, _, _, _] => simp [List.isPrefixOf]
  | a :: b :: c :: d :: e :: l =>
    rw [decide_eq_true (show ((a :: b :: c :: d :: e :: l).length : Int) ≥ 5 by simp only [List.length_cons]; omega)]
    rw [Bool.eq_iff_iff]
    simp only [cond_true, List.take_succ_cons, List.take_zero, beq_iff_eq, List.cons.injEq, List.isPrefixOf, Bool.and_eq_true, and_true]
    constructor
    · rintro ⟨rfl, rfl, rfl, rfl, rfl⟩; exact ⟨rfl, rfl, rfl, rfl, rfl⟩
    · rintro ⟨h1, h2, h3, h4, h5⟩; exact ⟨h1.symm, h2.symm, h3.symm, h4.symm, h5.symm⟩
abbrev PgS := (Int × Int × List UInt8 × Int × Unit) × (List DConf × Unit)
def pgStp (x : PgS) : Ex × PgS :=
  bif x.1.2.2.1 != [] then
    bif (parseF (x.1.2.2.1.take (endF x.1.2.2.1))).2.2 != 0 then (.ret, ((x.1.2.2.2.1, (parseF (x.1.2.2.1.take (endF x.1.2.2.1))).2.2, x.1.2.2.1, x.1.2.2.2.1, ()), x.2.1, ()))
    else (.normal, ((x.1.1, x.1.2.1, x.1.2.2.1.drop (endF x.1.2.2.1), x.1.2.2.2.1 + 1, ()), x.2.1 ++ [(parseF (x.1.2.2.1.take (endF x.1.2.2.1))).1], ()))
  else (.exit 0, x)
def pgMu (x : PgS) : Nat := x.1.2.2.1.length
def pgPre (x : PgS) : Prop := 0 ≤ x.1.2.2.2.1 ∧ x.1.2.2.2.1 + x.1.2.2.1.length ≤ 20000 ∧ x.2.1.length + x.1.2.2.1.length ≤ 20000 ∧ x.1.2.2.1.length ≤ 8000
theorem pgStp_ends (x : PgS) : (pgStp x).1 = .normal ∨ (pgStp x).1 = .exit 0 ∨ (pgStp x).1 = .ret := by
  unfold pgStp
  cases x.1.2.2.1 != [] with
  | false => exact .inr (.inl rfl)
  | true =>
    cases (parseF (x.1.2.2.1.take (endF x.1.2.2.1))).2.2 != 0 with
    | true => exact .inr (.inr rfl)
    | false => exact .inl rfl
theorem pg_go {x : PgS} (hp : pgPre x) (hn : (pgStp x).1 = .normal) : pgPre (pgStp x).2 ∧ pgMu (pgStp x).2 < pgMu x := by
  obtain ⟨⟨e, e2, r, a, ⟨⟩⟩, o, ⟨⟩⟩ := x
  obtain ⟨h1, h2, h3, h4⟩ := hp
  simp only at h1 h2 h3 h4
  unfold pgStp at hn ⊢
  simp only at hn ⊢
  by_cases hr : r = []
  · subst hr; cases hn
  have hr2 : (r != []) = true := by simpa using hr
  rw [hr2] at hn ⊢
  have hl := end_le r
  have hpos := end_pos hr
  cases hb : (parseF (r.take (endF r))).2.2 != 0 with
  | true => rw [hb] at hn; cases hn
  | false =>
    refine ⟨⟨?_, ?_, ?_, ?_⟩, ?_⟩
    · show 0 ≤ a + 1; omega
    · show a + 1 + ((r.drop (endF r)).length : Int) ≤ 20000
      rw [List.length_drop]; omega
    · show (o ++ [(parseF (r.take (endF r))).1]).length + (r.drop (endF r)).length ≤ 20000
      rw [List.length_drop, List.length_append, List.length_singleton]; omega
    · show (r.drop (endF r)).length ≤ 8000
      rw [List.length_drop]; omega
    · show (r.drop (endF r)).length < r.length
      rw [List.length_drop]; omega
def pgEnd (s : List UInt8) (q : Ex × PgS) : List DConf × Int × Int := bif isRet q.1 then ([], q.2.1.1, q.2.1.2.1) else bif (bif (paF q.2.2.1).2 != 0 then true else (paF q.2.2.1).1 != s) then ([], 0, 3) else (q.2.2.1, 0, 0)
def pgSt (s : List UInt8) : PgS := ((0, 0, s, 1, ()), [], ())
def pgF (s : List UInt8) : List DConf × Int × Int := bif decide ((s.length : Int) > 8000) then ([], 0, 4) else pgEnd s (runF pgStp (s.length + 1) (pgSt s))
theorem pg_pre {s : List UInt8} (h : ¬ (s.length : Int) > 8000) : pgPre (pgSt s) := ⟨by show (0 : Int) ≤ 1; omega, by show (1 : Int) + s.length ≤ 20000; omega, by show 0 + s.length ≤ 20000; omega, by show s.length ≤ 8000; omega⟩
end Go.Ev
/- The document's way of cutting into pieces, line by line, in plain Lean. -/
set_option linter.unusedVariables false
set_option linter.unusedSimpArgs false
namespace Go.Ev
abbrev LeS := (List UInt8 × Int × Unit) × Unit
def leStp (x : LeS) : Ex × LeS :=
  bif (bif decide (x.1.2.1 < x.1.1.length) then ((x.1.1.getD x.1.2.1.toNat 0).toNat : Int) != 10 else false) then (.normal, ((x.1.1, x.1.2.1 + 1, ()), ()))
  else (.exit 2, x)
theorem leStp_ends (x : LeS) : (leStp x).1 = .normal ∨ (leStp x).1 = .exit 2 := by
  unfold leStp
  cases (bif decide (x.1.2.1 < x.1.1.length) then ((x.1.1.getD x.1.2.1.toNat 0).toNat : Int) != 10 else false) with
  | false => exact .inr rfl
  | true => exact .inl rfl
def leMu (x : LeS) : Nat := (x.1.1.length - x.1.2.1).toNat
def lePre (x : LeS) : Prop := 0 ≤ x.1.2.1 ∧ x.1.2.1 ≤ x.1.1.length ∧ x.1.1.length ≤ 10000
theorem le_go {x : LeS} (hp : lePre x) (hn : (leStp x).1 = .normal) : lePre (leStp x).2 ∧ leMu (leStp x).2 < leMu x := by
  obtain ⟨⟨s, a, ⟨⟩⟩, ⟨⟩⟩ := x
  obtain ⟨h1, h2, h3⟩ := hp
  simp only at h1 h2 h3
  unfold leStp at hn ⊢
  simp only at hn ⊢
  by_cases ha : a < s.length
  · rw [decide_eq_true ha] at hn ⊢
    simp only [cond_true] at hn ⊢
    cases hb : ((s.getD a.toNat 0).toNat : Int) != 10 with
    | false => rw [hb] at hn; cases hn
    | true =>
      refine ⟨⟨?_, ?_, h3⟩, ?_⟩
      · show 0 ≤ a + 1; omega
      · show a + 1 ≤ s.length; omega
      · show ((s.length : Int) - (a + 1)).toNat < ((s.length : Int) - a).toNat; omega
  · rw [decide_eq_false ha] at hn; cases hn
abbrev RgS := (List UInt8 × Int × Int × Int × Int × Unit) × (List DConf × Unit)
def leE (s : List UInt8) (a : Int) : Int := (runF leStp (leMu ((s, a, ()), ()) + 1) ((s, a, ()), ())).2.1.2.1
theorem le_run (x : LeS) : runF leStp (leMu x + 1) x = (.exit 2, ((x.1.1, leE x.1.1 x.1.2.1, ()), ())) := by
  have h : (runF leStp (leMu x + 1) x).1 = .exit 2 ∧ (runF leStp (leMu x + 1) x).2.1.1 = x.1.1 := by
    refine runF_inv (J := fun y => y.1.1 = x.1.1) (Post := fun q => q.1 = .exit 2 ∧ q.2.1.1 = x.1.1) (μ := leMu) (fun y hy => ⟨fun hn => ?_, fun hn => ?_⟩) _ _ rfl (Nat.lt_succ_self _)
    · obtain ⟨⟨s, a, ⟨⟩⟩, ⟨⟩⟩ := y
      unfold leStp at hn ⊢
      simp only at hn ⊢
      by_cases ha : a < s.length
      · rw [decide_eq_true ha] at hn ⊢
        simp only [cond_true] at hn ⊢
        cases hb : ((s.getD a.toNat 0).toNat : Int) != 10 with
        | false => rw [hb] at hn; cases hn
        | true => exact ⟨hy, by show ((s.length : Int) - (a + 1)).toNat < ((s.length : Int) - a).toNat; omega⟩
      · rw [decide_eq_false ha] at hn; cases hn
    · have h2 := (leStp_ends y).resolve_left hn
      refine ⟨h2, ?_⟩
      unfold leStp at h2 ⊢
      revert h2
      cases (bif decide (y.1.2.1 < y.1.1.length) then ((y.1.1.getD y.1.2.1.toNat 0).toNat : Int) != 10 else false) with
      | false => exact fun _ => hy
      | true => exact fun h2 => by cases h2
  obtain ⟨⟨s, a, ⟨⟩⟩, ⟨⟩⟩ := x
  obtain ⟨h1, h2⟩ := h
  unfold leE
  revert h1 h2
  generalize runF leStp (leMu ((s, a, ()), ()) + 1) ((s, a, ()), ()) = q
  obtain ⟨q1, ⟨q2, q3, ⟨⟩⟩, ⟨⟩⟩ := q
  rintro rfl rfl
  rfl
/-- Where the next line begins. -/
def nxF (s : List UInt8) (a : Int) : Int := if (s.length : Int) < leE s a + 1 then (s.length : Int) else leE s a + 1
/-- A line's end: there is a newline, or the text's end; and no newline ahead of it. -/
theorem le_at {s : List UInt8} {a : Int} (h0 : 0 ≤ a) (h1 : a ≤ s.length) (h2 : s.length ≤ 10000) : a ≤ leE s a ∧ leE s a ≤ s.length ∧ (leE s a < s.length → s.getD (leE s a).toNat 0 = 10) ∧ ∀ j : Int, a ≤ j → j < leE s a → s.getD j.toNat 0 ≠ 10 := by
  have h : a ≤ (runF leStp (leMu ((s, a, ()), ()) + 1) ((s, a, ()), ())).2.1.2.1 ∧ (runF leStp (leMu ((s, a, ()), ()) + 1) ((s, a, ()), ())).2.1.2.1 ≤ s.length ∧ ((runF leStp (leMu ((s, a, ()), ()) + 1) ((s, a, ()), ())).2.1.2.1 < s.length → s.getD (runF leStp (leMu ((s, a, ()), ()) + 1) ((s, a, ()), ())).2.1.2.1.toNat 0 = 10) ∧ ∀ j : Int, a ≤ j → j < (runF leStp (leMu ((s, a, ()), ()) + 1) ((s, a, ()), ())).2.1.2.1 → s.getD j.toNat 0 ≠ 10 := by
    refine runF_inv (J := fun y => lePre y ∧ y.1.1 = s ∧ a ≤ y.1.2.1 ∧ ∀ j : Int, a ≤ j → j < y.1.2.1 → s.getD j.toNat 0 ≠ 10) (Post := fun q => a ≤ q.2.1.2.1 ∧ q.2.1.2.1 ≤ s.length ∧ (q.2.1.2.1 < s.length → s.getD q.2.1.2.1.toNat 0 = 10) ∧ ∀ j : Int, a ≤ j → j < q.2.1.2.1 → s.getD j.toNat 0 ≠ 10) (μ := leMu) (fun y hy => ⟨fun hn => ?_, fun hn => ?_⟩) _ _ ⟨⟨h0, h1, h2⟩, rfl, Int.le_refl _, fun j h3 h4 => absurd h4 (by show ¬ j < a; omega)⟩ (Nat.lt_succ_self _)
    · obtain ⟨k1, k2, k3, k4⟩ := hy
      refine ⟨⟨(le_go k1 hn).1, ?_⟩, (le_go k1 hn).2⟩
      obtain ⟨⟨t, b, ⟨⟩⟩, ⟨⟩⟩ := y
      simp only at k2 k3 k4
      subst k2
      obtain ⟨k5, k6, k7⟩ := k1
      simp only at k5 k6 k7
      unfold leStp at hn ⊢
      simp only at hn ⊢
      by_cases ha : b < t.length
      · rw [decide_eq_true ha] at hn ⊢
        simp only [cond_true] at hn ⊢
        cases hb : ((t.getD b.toNat 0).toNat : Int) != 10 with
        | false => rw [hb] at hn; cases hn
        | true =>
          refine ⟨rfl, by show a ≤ b + 1; omega, fun j h3 h4 => ?_⟩
          have h4' : j < b + 1 := h4
          by_cases hj : j < b
          · exact k4 j h3 hj
          · have : j = b := by omega
            subst this
            intro he
            rw [he] at hb
            exact absurd hb (by decide)
      · rw [decide_eq_false ha] at hn; cases hn
    · obtain ⟨k1, k2, k3, k4⟩ := hy
      obtain ⟨⟨t, b, ⟨⟩⟩, ⟨⟩⟩ := y
      simp only at k2 k3 k4
      subst k2
      obtain ⟨k5, k6, k7⟩ := k1
      simp only at k5 k6 k7
      unfold leStp at hn ⊢
      simp only at hn ⊢
      by_cases ha : b < t.length
      · rw [decide_eq_true ha] at hn ⊢
        simp only [cond_true] at hn ⊢
        cases hb : ((t.getD b.toNat 0).toNat : Int) != 10 with
        | true => rw [hb] at hn; exact absurd rfl hn
        | false =>
          refine ⟨k3, k6, fun _ => ?_, k4⟩
          show t.getD b.toNat 0 = 10
          have : ((t.getD b.toNat 0).toNat : Int) = 10 := by simpa using hb
          exact UInt8.toNat_inj.1 (by show (t.getD b.toNat 0).toNat = 10; omega)
      · rw [decide_eq_false ha]
        exact ⟨k3, k6, fun h => absurd h ha, k4⟩
  exact h
theorem nx_at {s : List UInt8} {a : Int} (h0 : 0 ≤ a) (h1 : a < s.length) (h2 : s.length ≤ 10000) : a < nxF s a ∧ nxF s a ≤ s.length := by
  obtain ⟨h3, h4, _, _⟩ := le_at h0 (by omega) h2
  unfold nxF
  split <;> omega
def rgPre (x : RgS) : Prop := 0 ≤ x.1.2.2.2.2.1 ∧ x.1.2.2.2.2.1 ≤ x.1.2.2.2.1 ∧ x.1.2.2.2.1 ≤ x.1.1.length ∧ x.1.1.length ≤ 8000 ∧ (x.2.1.length : Int) ≤ x.1.2.2.2.1
def rgMu (x : RgS) : Nat := (x.1.1.length - x.1.2.2.2.1).toNat
def rgP (x : RgS) : DConf × Int × Int := parseF ((x.1.1.take (nxF x.1.1 x.1.2.2.2.1).toNat).drop x.1.2.2.2.2.1.toNat)
def rgStp (x : RgS) : Ex × RgS :=
  bif decide (x.1.2.2.2.1 < x.1.1.length) then
    bif (bif nxF x.1.1 x.1.2.2.2.1 == x.1.1.length then true else beginsF (x.1.1.drop (nxF x.1.1 x.1.2.2.2.1).toNat)) then
      bif (rgP x).2.2 != 0 then (.ret, ((x.1.1, x.2.1.length + 1, (rgP x).2.2, x.1.2.2.2.1, x.1.2.2.2.2.1, ()), x.2.1, ()))
      else (.normal, ((x.1.1, x.1.2.1, x.1.2.2.1, nxF x.1.1 x.1.2.2.2.1, nxF x.1.1 x.1.2.2.2.1, ()), x.2.1 ++ [(rgP x).1], ()))
    else (.normal, ((x.1.1, x.1.2.1, x.1.2.2.1, nxF x.1.1 x.1.2.2.2.1, x.1.2.2.2.2.1, ()), x.2.1, ()))
  else (.exit 0, x)
theorem rgStp_ends (x : RgS) : (rgStp x).1 = .normal ∨ (rgStp x).1 = .exit 0 ∨ (rgStp x).1 = .ret := by
  unfold rgStp
  cases decide (x.1.2.2.2.1 < x.1.1.length) with
  | false => exact .inr (.inl rfl)
  | true =>
    cases (bif nxF x.1.1 x.1.2.2.2.1 == x.1.1.length then true else beginsF (x.1.1.drop (nxF x.1.1 x.1.2.2.2.1).toNat)) with
    | false => exact .inl rfl
    | true =>
      cases (rgP x).2.2 != 0 with
      | true => exact .inr (.inr rfl)
      | false => exact .inl rfl
theorem rg_go {x : RgS} (hp : rgPre x) (hn : (rgStp x).1 = .normal) : rgPre (rgStp x).2 ∧ rgMu (rgStp x).2 < rgMu x := by
  obtain ⟨⟨s, e, e2, a, f, ⟨⟩⟩, o, ⟨⟩⟩ := x
  obtain ⟨h1, h2, h3, h4, h5⟩ := hp
  simp only at h1 h2 h3 h4 h5
  unfold rgStp at hn ⊢
  simp only at hn ⊢
  by_cases ha : a < s.length
  · rw [decide_eq_true ha] at hn ⊢
    obtain ⟨h6, h7⟩ := nx_at (by omega) ha (by omega)
    simp only [cond_true] at hn ⊢
    cases hb : (bif nxF s a == s.length then true else beginsF (s.drop (nxF s a).toNat)) with
    | false =>
      refine ⟨⟨h1, ?_, h7, h4, ?_⟩, ?_⟩
      · show f ≤ nxF s a; omega
      · show (o.length : Int) ≤ nxF s a; omega
      · show ((s.length : Int) - nxF s a).toNat < ((s.length : Int) - a).toNat; omega
    | true =>
      rw [hb] at hn
      simp only [cond_true] at hn ⊢
      cases hc : (rgP ((s, e, e2, a, f, PUnit.unit), o, PUnit.unit)).2.2 != 0 with
      | true => rw [hc] at hn; cases hn
      | false =>
        refine ⟨⟨?_, Int.le_refl _, h7, h4, ?_⟩, ?_⟩
        · show 0 ≤ nxF s a; omega
        · show ((o ++ [(rgP ((s, e, e2, a, f, PUnit.unit), o, PUnit.unit)).1]).length : Int) ≤ nxF s a
          rw [List.length_append, List.length_singleton]; omega
        · show ((s.length : Int) - nxF s a).toNat < ((s.length : Int) - a).toNat; omega
  · rw [decide_eq_false ha] at hn; cases hn
def rgSt (s : List UInt8) : RgS := ((s, 0, 0, 0, 0, ()), [], ())
def rgEnd (q : Ex × RgS) : List DConf × Int × Int := bif isRet q.1 then ([], q.2.1.2.1, q.2.1.2.2.1) else bif (bif (paF q.2.2.1).2 != 0 then true else (paF q.2.2.1).1 != q.2.1.1) then ([], 0, 3) else (q.2.2.1, 0, 0)
theorem rg_pre {s : List UInt8} (h : ¬ (s.length : Int) > 8000) : rgPre (rgSt s) := ⟨Int.le_refl _, Int.le_refl _, by show (0 : Int) ≤ s.length; omega, by show s.length ≤ 8000; omega, Int.le_refl _⟩
end Go.Ev
/- Both ways of cutting are one. -/
set_option linter.unusedVariables false
set_option linter.unusedSimpArgs false
namespace Go.Ev
theorem end_none : ∀ {p : List UInt8}, (10 : UInt8) ∉ p → endF p = p.length
  | [], _ => rfl
  | b :: l, h => by
    have hb : (b == 10) = false := by
      cases hb : b == 10 with
      | false => rfl
      | true => exact absurd (List.mem_cons.2 (.inl (eq_of_beq hb).symm)) h
    have ih := end_none (p := l) fun h2 => h (List.mem_cons.2 (.inr h2))
    unfold endF
    rw [hb, Bool.false_and, Bool.or_false]
    cases l with
    | nil => rfl
    | cons c l => rw [ih]; rfl
theorem end_line : ∀ {p : List UInt8} (q : List UInt8), (10 : UInt8) ∉ p → endF (p ++ 10 :: q) = bif q.isEmpty || beginsF q then p.length + 1 else p.length + 1 + endF q
  | [], q, _ => by
    show (bif q.isEmpty || ((10 : UInt8) == 10 && beginsF q) then 1 else endF q + 1) = bif q.isEmpty || beginsF q then 0 + 1 else 0 + 1 + endF q
    rw [show ((10 : UInt8) == 10) = true from rfl, Bool.true_and]
    cases q.isEmpty || beginsF q with
    | true => rfl
    | false => show endF q + 1 = 0 + 1 + endF q; omega
  | b :: l, q, h => by
    have hb : (b == 10) = false := by
      cases hb : b == 10 with
      | false => rfl
      | true => exact absurd (List.mem_cons.2 (.inl (eq_of_beq hb).symm)) h
    have ih := end_line (p := l) q fun h2 => h (List.mem_cons.2 (.inr h2))
    show (bif (l ++ 10 :: q).isEmpty || (b == 10 && beginsF (l ++ 10 :: q)) then 1 else endF (l ++ 10 :: q) + 1) = _
    have he : (l ++ 10 :: q).isEmpty = false := by cases l <;> rfl
    rw [hb, he, Bool.false_and, Bool.or_false, ih]
    cases q.isEmpty || beginsF q with
    | true => rfl
    | false =>
      show l.length + 1 + endF q + 1 = (b :: l).length + 1 + endF q
      rw [List.length_cons]; omega
/-- A piece's length, a line on. -/
theorem end_step {s : List UInt8} {a : Int} (h0 : 0 ≤ a) (h1 : a < s.length) (h2 : s.length ≤ 10000) : (endF (s.drop a.toNat) : Int) = bif (bif nxF s a == s.length then true else beginsF (s.drop (nxF s a).toNat)) then nxF s a - a else nxF s a - a + endF (s.drop (nxF s a).toNat) := by
  obtain ⟨h3, h4, h5, h6⟩ := le_at h0 (by omega) h2
  have hno : ∀ k : Nat, a + k ≤ leE s a → (10 : UInt8) ∉ (s.drop a.toNat).take k := fun k hk hm => by
    obtain ⟨i, hi, he⟩ := List.mem_iff_getElem.1 hm
    rw [List.length_take, List.length_drop] at hi
    rw [List.getElem_take, List.getElem_drop] at he
    refine h6 (a + i) (by omega) (by omega) ?_
    rw [show (a + i).toNat = a.toNat + i by omega]
    rw [← he]
    simp [List.getD, show a.toNat + i < s.length by omega]
  by_cases ht : leE s a < s.length
  · have hn : nxF s a = leE s a + 1 := by unfold nxF; rw [if_neg (by omega)]
    rw [hn]
    have hd : s.drop a.toNat = (s.drop a.toNat).take (leE s a - a).toNat ++ 10 :: s.drop (leE s a + 1).toNat := by
      have e := drop_any (l := s) (0 : UInt8) (i := leE s a) (by omega) (by omega)
      rw [h5 ht] at e
      rw [← e]
      have e2 : s.drop (leE s a).toNat = (s.drop a.toNat).drop (leE s a - a).toNat := by
        rw [List.drop_drop, show a.toNat + (leE s a - a).toNat = (leE s a).toNat by omega]
      rw [e2, List.take_append_drop]
    have hl : ((s.drop a.toNat).take (leE s a - a).toNat).length = (leE s a - a).toNat := by
      rw [List.length_take, List.length_drop]; omega
    rw [hd, end_line _ (hno _ (by omega)), hl]
    have hq : (s.drop (leE s a + 1).toNat).isEmpty = (leE s a + 1 == (s.length : Int)) := by
      rw [Bool.eq_iff_iff, List.isEmpty_iff, beq_iff_eq, List.drop_eq_nil_iff]
      omega
    rw [hq]
    cases hc : leE s a + 1 == (s.length : Int) with
    | true =>
      rw [Bool.true_or]
      show (((leE s a - a).toNat + 1 : Nat) : Int) = leE s a + 1 - a
      omega
    | false =>
      rw [Bool.false_or]
      simp only [cond_false]
      cases beginsF (s.drop (leE s a + 1).toNat) with
      | true =>
        show (((leE s a - a).toNat + 1 : Nat) : Int) = leE s a + 1 - a
        omega
      | false =>
        show (((leE s a - a).toNat + 1 + endF (s.drop (leE s a + 1).toNat) : Nat) : Int) = leE s a + 1 - a + endF (s.drop (leE s a + 1).toNat)
        omega
  · have hn : nxF s a = s.length := by unfold nxF; rw [if_pos (by omega)]
    have hall : (s.drop a.toNat).take (leE s a - a).toNat = s.drop a.toNat := List.take_of_length_le (by rw [List.length_drop]; omega)
    have h7 := hno (leE s a - a).toNat (by omega)
    rw [hall] at h7
    rw [hn, end_none h7, show ((s.length : Int) == (s.length : Int)) = true from beq_self_eq_true _, List.length_drop]
    show ((s.length - a.toNat : Nat) : Int) = (s.length : Int) - a
    omega
def pgRun (y : PgS) : Ex × PgS := runF pgStp (pgMu y + 1) y
theorem pgRun_go {y z : PgS} (hp : pgPre y) (h : pgStp y = (.normal, z)) : pgRun y = pgRun z := by
  have h2 := pg_go hp (by rw [h])
  rw [h] at h2
  unfold pgRun
  rw [runF_go h]
  exact runF_fuel (pre := pgPre) (μ := pgMu) (fun x hx hn => pg_go hx hn) _ _ _ h2.1 h2.2 (Nat.lt_succ_self _)
theorem pgRun_end {y : PgS} (h : (pgStp y).1 ≠ .normal) : pgRun y = pgStp y := runF_end h
theorem rg_same {s : List UInt8} (h : ¬ (s.length : Int) > 8000) : rgEnd (runF rgStp (rgMu (rgSt s) + 1) (rgSt s)) = pgF s := by
  have hR : pgF s = pgEnd s (pgRun (pgSt s)) := by unfold pgF; rw [decide_eq_false h]; rfl
  rw [hR]
  generalize hRd : pgEnd s (pgRun (pgSt s)) = R
  refine runF_inv (J := fun x => rgPre x ∧ x.1.1 = s ∧ pgEnd s (pgRun ((0, 0, s.drop x.1.2.2.2.2.1.toNat, x.2.1.length + 1, ()), x.2.1, ())) = R ∧ (x.1.2.2.2.1 < s.length → (endF (s.drop x.1.2.2.2.2.1.toNat) : Int) = x.1.2.2.2.1 - x.1.2.2.2.2.1 + endF (s.drop x.1.2.2.2.1.toNat)) ∧ (x.1.2.2.2.1 = s.length → x.1.2.2.2.2.1 = s.length)) (Post := fun q => rgEnd q = R) (μ := rgMu) (fun x hx => ?_) _ _ ⟨rg_pre h, rfl, hRd, fun _ => ?_, fun h2 => ?_⟩ (Nat.lt_succ_self _)
  · obtain ⟨h1, h2, h3, h4, h5⟩ := hx
    have hgo := fun hn => rg_go h1 hn
    obtain ⟨⟨s', e, e2, a, f, ⟨⟩⟩, o, ⟨⟩⟩ := x
    simp only at h2 h3 h4 h5
    subst h2
    obtain ⟨k1, k2, k3, k4, k5⟩ := h1
    simp only at k1 k2 k3 k4 k5
    by_cases ha : a < s'.length
    · obtain ⟨n1, n2⟩ := nx_at (by omega) ha (by omega)
      have hst := end_step (by omega) ha (by omega)
      have hf := h4 ha
      have hd0 : s'.drop f.toNat ≠ [] := by
        intro hd
        rw [List.drop_eq_nil_iff] at hd
        omega
      have hd : (s'.drop f.toNat != []) = true := by simpa using hd0
      have hpp : pgPre ((0, 0, s'.drop f.toNat, (o.length : Int) + 1, ()), o, ()) := by
        have hl : (s'.drop f.toNat).length = s'.length - f.toNat := List.length_drop
        refine ⟨?_, ?_, ?_, ?_⟩
        · show 0 ≤ (o.length : Int) + 1; omega
        · show (o.length : Int) + 1 + ((s'.drop f.toNat).length : Int) ≤ 20000
          rw [hl]; omega
        · show o.length + (s'.drop f.toNat).length ≤ 20000
          rw [hl]; omega
        · show (s'.drop f.toNat).length ≤ 8000
          rw [hl]; omega
      cases hb : (bif nxF s' a == s'.length then true else beginsF (s'.drop (nxF s' a).toNat)) with
      | false =>
        rw [hb] at hst
        simp only [cond_false] at hst
        have e1 : rgStp ((s', e, e2, a, f, PUnit.unit), o, PUnit.unit) = (.normal, ((s', e, e2, nxF s' a, f, ()), o, ())) := by
          unfold rgStp
          simp only
          rw [decide_eq_true ha, hb]
          rfl
        have hlt : nxF s' a < s'.length := by
          by_cases hq : nxF s' a = s'.length
          · rw [hq, beq_self_eq_true] at hb; cases hb
          · omega
        refine ⟨fun hn => ⟨⟨(hgo hn).1, ?_⟩, (hgo hn).2⟩, fun hn => ?_⟩
        · rw [e1]
          refine ⟨rfl, h3, fun _ => ?_, fun h9 => ?_⟩
          · show (endF (s'.drop f.toNat) : Int) = nxF s' a - f + endF (s'.drop (nxF s' a).toNat)
            omega
          · exact absurd (show nxF s' a = s'.length from h9) (by omega)
        · rw [e1] at hn; exact absurd rfl hn
      | true =>
        rw [hb] at hst
        simp only [cond_true] at hst
        have hend : endF (s'.drop f.toNat) = (nxF s' a).toNat - f.toNat := by omega
        have ecut : (s'.take (nxF s' a).toNat).drop f.toNat = (s'.drop f.toNat).take (endF (s'.drop f.toNat)) := by
          rw [hend, List.drop_take]
        have edrop : (s'.drop f.toNat).drop (endF (s'.drop f.toNat)) = s'.drop (nxF s' a).toNat := by
          rw [hend, List.drop_drop, show f.toNat + ((nxF s' a).toNat - f.toNat) = (nxF s' a).toNat by omega]
        have eP : rgP ((s', e, e2, a, f, PUnit.unit), o, PUnit.unit) = parseF ((s'.drop f.toNat).take (endF (s'.drop f.toNat))) := by
          unfold rgP
          simp only
          rw [ecut]
        cases hc : (parseF ((s'.drop f.toNat).take (endF (s'.drop f.toNat)))).2.2 != 0 with
        | true =>
          have e1 : rgStp ((s', e, e2, a, f, PUnit.unit), o, PUnit.unit) = (Ex.ret, ((s', (o.length : Int) + 1, (parseF ((s'.drop f.toNat).take (endF (s'.drop f.toNat)))).2.2, a, f, ()), o, ())) := by
            unfold rgStp
            rw [eP]
            simp only
            rw [decide_eq_true ha, hb, hc]
            rfl
          have e3 : pgStp ((0, 0, s'.drop f.toNat, (o.length : Int) + 1, ()), o, ()) = (Ex.ret, (((o.length : Int) + 1, (parseF ((s'.drop f.toNat).take (endF (s'.drop f.toNat)))).2.2, s'.drop f.toNat, (o.length : Int) + 1, ()), o, ())) := by
            unfold pgStp
            simp only
            rw [hd, hc]
            rfl
          refine ⟨fun hn => (by rw [e1] at hn; cases hn), fun _ => ?_⟩
          rw [e1]
          rw [pgRun_end (by rw [e3]; exact fun h => by cases h), e3] at h3
          exact h3
        | false =>
          have e1 : rgStp ((s', e, e2, a, f, PUnit.unit), o, PUnit.unit) = (.normal, ((s', e, e2, nxF s' a, nxF s' a, ()), o ++ [(parseF ((s'.drop f.toNat).take (endF (s'.drop f.toNat)))).1], ())) := by
            unfold rgStp
            rw [eP]
            simp only
            rw [decide_eq_true ha, hb, hc]
            rfl
          have e2 : pgStp ((0, 0, s'.drop f.toNat, (o.length : Int) + 1, ()), o, ()) = (.normal, ((0, 0, s'.drop (nxF s' a).toNat, (o.length : Int) + 1 + 1, ()), o ++ [(parseF ((s'.drop f.toNat).take (endF (s'.drop f.toNat)))).1], ())) := by
            unfold pgStp
            simp only
            rw [hd, hc, edrop]
            rfl
          refine ⟨fun hn => ⟨⟨(hgo hn).1, ?_⟩, (hgo hn).2⟩, fun hn => by rw [e1] at hn; exact absurd rfl hn⟩
          rw [e1]
          rw [pgRun_go hpp e2] at h3
          refine ⟨rfl, ?_, fun _ => ?_, fun h9 => h9⟩
          · have e3 : ((o ++ [(parseF ((s'.drop f.toNat).take (endF (s'.drop f.toNat)))).1]).length : Int) + 1 = (o.length : Int) + 1 + 1 := by
              rw [List.length_append, List.length_singleton]; omega
            simp only
            rw [e3]
            exact h3
          · show (endF (s'.drop (nxF s' a).toNat) : Int) = nxF s' a - nxF s' a + endF (s'.drop (nxF s' a).toNat)
            omega
    · have e1 : rgStp ((s', e, e2, a, f, PUnit.unit), o, PUnit.unit) = (.exit 0, ((s', e, e2, a, f, ()), o, ())) := by
        unfold rgStp
        simp only
        rw [decide_eq_false ha]
        rfl
      refine ⟨fun hn => (by rw [e1] at hn; cases hn), fun _ => ?_⟩
      rw [e1]
      have hfe := h5 (by omega)
      have hnil : s'.drop f.toNat = [] := List.drop_eq_nil_of_le (by omega)
      rw [hnil] at h3
      exact h3
  · show (endF (s.drop 0) : Int) = 0 - 0 + endF (s.drop 0)
    omega
  · exact h2
end Go.Ev
/- The links that two ends say, in plain Lean. -/
set_option linter.unusedVariables false
set_option linter.unusedSimpArgs false
namespace Go.Ev
abbrev DMat := List (List Int)
def pairF (x y : DConf) : Bool := bif (bif decide (x.1 < y.1) then hasF x.2.2.1 y.1 else false) then hasF y.2.2.1 x.1 else false
def cntP (c : DConf) : List DConf → Int
  | [] => 0
  | y :: l => (bif pairF c y then 1 else 0) + cntP c l
def allP (l0 : List DConf) : List DConf → Int
  | [] => 0
  | x :: l => cntP x l0 + allP l0 l
def gM (m : DMat) (a b : Int) : Int := (m.getD a.toNat (List.replicate 16 0)).getD b.toNat 0
def incF (m : DMat) (a b : Int) : DMat := m.set a.toNat ((m.getD a.toNat (List.replicate 16 0)).set b.toNat (gM m a b + 1))
def incs (c : DConf) : Nat → Int → DMat → DMat
  | 0, _, m => m
  | k + 1, i, m => incs c k (i + 1) (bif hasF c.2.2.1 i then incF m c.1 i else m)
def matL : DMat → List DConf → DMat
  | m, [] => m
  | m, c :: l => matL (bif !rightF c.1 then m else incs c 16 0 m) l
def sumT (f : Int → Int) : Nat → Int → Int
  | 0, _ => 0
  | k + 1, i => f i + sumT f k (i + 1)
def prodM (m : DMat) (a b : Int) : Int := gM m a b * gM m b a
def zeroM : DMat := List.replicate 16 (List.replicate 16 0)
def linksF (l : List DConf) : Int := sumT (fun a => sumT (prodM (matL zeroM l) a) (15 - a).toNat (a + 1)) 16 0
def matOK (m : DMat) (B : Int) : Prop := m.length = 16 ∧ ∀ r ∈ m, r.length = 16 ∧ ∀ v ∈ r, 0 ≤ v ∧ v ≤ B
abbrev L93I := (Int × List DConf × Int × Int × Unit) × (DConf × Unit)
abbrev L93O := (List DConf × Int × List DConf × Int × Int × Unit) × Unit
abbrev L92B := (Int × Unit) × (DMat × DConf × Unit)
abbrev L92A := (List DConf × Int × Int × Unit) × (DMat × Unit)
abbrev L92D := (Int × Int × Int × Unit) × (DMat × Unit)
abbrev L92C := (Int × Int × Unit) × (DMat × Unit)
def p93I (x : L93I) : Prop := 0 ≤ x.1.2.2.2.1 ∧ x.1.2.2.2.1 ≤ x.1.2.2.1 ∧ x.1.2.2.1 = x.1.2.1.length ∧ x.1.2.2.1 ≤ 20 ∧ 0 ≤ x.1.1 ∧ x.1.1 ≤ 400 + x.1.2.2.2.1
def p93O (x : L93O) : Prop := 0 ≤ x.1.2.2.2.2.1 ∧ x.1.2.2.2.2.1 ≤ x.1.2.2.2.1 ∧ x.1.2.2.2.1 = x.1.2.2.1.length ∧ x.1.2.2.2.1 ≤ 20 ∧ 0 ≤ x.1.2.1 ∧ x.1.2.1 ≤ 20 * x.1.2.2.2.2.1 ∧ x.1.1.length ≤ 20
def p92B (x : L92B) : Prop := 0 ≤ x.1.1 ∧ x.1.1 ≤ 16 ∧ rightF x.2.2.1.1 = true ∧ matOK x.2.1 (320 + x.1.1)
def p92A (x : L92A) : Prop := 0 ≤ x.1.2.2.1 ∧ x.1.2.2.1 ≤ x.1.2.1 ∧ x.1.2.1 = x.1.1.length ∧ x.1.2.1 ≤ 20 ∧ matOK x.2.1 (16 * x.1.2.2.1)
def p92D (x : L92D) : Prop := 0 ≤ x.1.2.1 ∧ x.1.2.1 < 16 ∧ 0 ≤ x.1.2.2.1 ∧ x.1.2.2.1 ≤ 16 ∧ matOK x.2.1 400 ∧ 0 ≤ x.1.1 ∧ x.1.1 ≤ 200000 * (16 * x.1.2.1 + x.1.2.2.1)
def p92C (x : L92C) : Prop := 0 ≤ x.1.2.1 ∧ x.1.2.1 ≤ 16 ∧ matOK x.2.1 400 ∧ 0 ≤ x.1.1 ∧ x.1.1 ≤ 200000 * (16 * x.1.2.1)
theorem cntP_in (c : DConf) : ∀ l : List DConf, 0 ≤ cntP c l ∧ cntP c l ≤ l.length
  | [] => ⟨Int.le_refl _, Int.le_refl _⟩
  | y :: l => by
    have ih := cntP_in c l
    unfold cntP
    rw [List.length_cons]
    cases pairF c y with
    | true => simp only [cond_true]; omega
    | false => simp only [cond_false]; omega
theorem matOK_mono {m : DMat} {A B : Int} (h : A ≤ B) (hm : matOK m A) : matOK m B := ⟨hm.1, fun r hr => ⟨(hm.2 r hr).1, fun v hv => ⟨((hm.2 r hr).2 v hv).1, by have := ((hm.2 r hr).2 v hv).2; omega⟩⟩⟩
theorem getD_in {α : Type} {l : List α} {i : Nat} (d : α) (h : i < l.length) : l.getD i d ∈ l := by simp [List.getD, h]
theorem row_in {m : DMat} {B a : Int} (hm : matOK m B) (h0 : 0 ≤ a) (h1 : a < 16) : m.getD a.toNat (List.replicate 16 0) ∈ m := getD_in _ (by have := hm.1; omega)
theorem gM_in {m : DMat} {B a b : Int} (hm : matOK m B) (h0 : 0 ≤ a) (h1 : a < 16) (h2 : 0 ≤ b) (h3 : b < 16) : 0 ≤ gM m a b ∧ gM m a b ≤ B := by
  have hr := hm.2 _ (row_in hm h0 h1)
  exact hr.2 _ (getD_in _ (by have := hr.1; omega))
theorem inc_ok {m : DMat} {B a b : Int} (hm : matOK m B) (h0 : 0 ≤ a) (h1 : a < 16) (h2 : 0 ≤ b) (h3 : b < 16) : matOK (incF m a b) (B + 1) := by
  have hg := gM_in hm h0 h1 h2 h3
  have hrow := hm.2 _ (row_in hm h0 h1)
  unfold incF
  refine ⟨by rw [List.length_set]; exact hm.1, fun r hr => ?_⟩
  rcases List.mem_or_eq_of_mem_set hr with h | rfl
  · exact ⟨(hm.2 r h).1, fun v hv => ⟨((hm.2 r h).2 v hv).1, by have := ((hm.2 r h).2 v hv).2; omega⟩⟩
  · refine ⟨by rw [List.length_set]; exact hrow.1, fun v hv => ?_⟩
    rcases List.mem_or_eq_of_mem_set hv with h | rfl
    · have := hrow.2 v h; omega
    · omega
theorem right_in {n : Int} (h : rightF n = true) : 0 ≤ n ∧ n < 16 := rightF_iff.1 h
theorem incs_ok {c : DConf} (hc : rightF c.1 = true) : ∀ (k : Nat) (i : Int) {m : DMat} {B : Int}, matOK m B → 0 ≤ i → i + k ≤ 16 → matOK (incs c k i m) (B + k)
  | 0, _, _, B, hm, _, _ => matOK_mono (by omega) hm
  | k + 1, i, m, B, hm, h0, h1 => by
    have hr := right_in hc
    unfold incs
    have h2 : matOK (bif hasF c.2.2.1 i then incF m c.1 i else m) (B + 1) := by
      cases hasF c.2.2.1 i with
      | true => exact inc_ok hm hr.1 hr.2 h0 (by omega)
      | false => exact matOK_mono (by omega) hm
    exact matOK_mono (by omega) (incs_ok hc k (i + 1) h2 (by omega) (by omega))
theorem matL_ok : ∀ (l : List DConf) {m : DMat} {B : Int}, matOK m B → matOK (matL m l) (B + 16 * l.length)
  | [], _, B, hm => matOK_mono (by simp) hm
  | c :: l, m, B, hm => by
    unfold matL
    have h2 : matOK (bif !rightF c.1 then m else incs c 16 0 m) (B + 16) := by
      cases hc : rightF c.1 with
      | true => exact incs_ok hc 16 0 hm (Int.le_refl _) (by omega)
      | false => exact matOK_mono (by omega) hm
    refine matOK_mono ?_ (matL_ok l h2)
    rw [List.length_cons]; omega
theorem zeroM_ok : matOK zeroM 0 := ⟨List.length_replicate, fun r hr => by
  rw [(List.mem_replicate.1 hr).2]
  exact ⟨List.length_replicate, fun v hv => by rw [(List.mem_replicate.1 hv).2]; exact ⟨Int.le_refl _, Int.le_refl _⟩⟩⟩
theorem sumT_in {f : Int → Int} {B : Int} (hB : 0 ≤ B) : ∀ (k : Nat) (i : Int), (∀ j, i ≤ j → j < i + k → 0 ≤ f j ∧ f j ≤ B) → 0 ≤ sumT f k i ∧ sumT f k i ≤ B * k
  | 0, _, _ => ⟨Int.le_refl _, by show (0 : Int) ≤ B * 0; omega⟩
  | k + 1, i, h => by
    have ih := sumT_in hB k (i + 1) fun j h1 h2 => h j (by omega) (by omega)
    have h0 := h i (Int.le_refl _) (by omega)
    unfold sumT
    have e : B * ((k + 1 : Nat) : Int) = B * k + B := by rw [Int.natCast_succ, Int.mul_add, Int.mul_one]
    rw [e]
    omega
theorem prod_in {m : DMat} {a b : Int} (hm : matOK m 400) (h0 : 0 ≤ a) (h1 : a < 16) (h2 : 0 ≤ b) (h3 : b < 16) : 0 ≤ prodM m a b ∧ prodM m a b ≤ 160000 := by
  have p := gM_in hm h0 h1 h2 h3
  have q := gM_in hm h2 h3 h0 h1
  unfold prodM
  exact ⟨Int.mul_nonneg p.1 q.1, Int.le_trans (Int.mul_le_mul p.2 q.2 q.1 (by omega)) (by decide)⟩
theorem row_sum {m : DMat} {a b : Int} (hm : matOK m 400) (h0 : 0 ≤ a) (h1 : a < 16) (h2 : 0 ≤ b) (h3 : b ≤ 16) : 0 ≤ sumT (prodM m a) (16 - b).toNat b ∧ sumT (prodM m a) (16 - b).toNat b ≤ 160000 * (16 - b) := by
  have h := sumT_in (f := prodM m a) (B := 160000) (by omega) (16 - b).toNat b fun j h4 h5 => prod_in hm h0 h1 (by omega) (by omega)
  rw [show (((16 - b).toNat : Nat) : Int) = 16 - b by omega] at h
  exact h
theorem getD_setA {α : Type} (l : List α) (i j : Nat) (v d : α) (h : i < l.length) : (l.set i v).getD j d = if i = j then v else l.getD j d := by
  by_cases hij : i = j
  · subst hij
    simp [List.getD, h]
  · rw [if_neg hij]
    simp [List.getD, List.getElem?_set, hij]
theorem gM_inc {m : DMat} {B a b : Int} (hm : matOK m B) (h0 : 0 ≤ a) (h1 : a < 16) (h2 : 0 ≤ b) (h3 : b < 16) {x y : Int} (h4 : 0 ≤ x) (h5 : 0 ≤ y) : gM (incF m a b) x y = gM m x y + if a = x ∧ b = y then 1 else 0 := by
  have hrow := hm.2 _ (row_in hm h0 h1)
  show ((incF m a b).getD x.toNat (List.replicate 16 0)).getD y.toNat 0 = _
  unfold incF
  rw [getD_setA _ _ _ _ _ (by have := hm.1; omega)]
  by_cases hx : a = x
  · subst hx
    rw [if_pos rfl, getD_setA _ _ _ _ _ (by have := hrow.1; omega)]
    by_cases hy : b = y
    · subst hy
      rw [if_pos rfl, if_pos ⟨rfl, rfl⟩]
    · rw [if_neg (by omega), if_neg (fun h => hy h.2), Int.add_zero]
      rfl
  · rw [if_neg (by omega), if_neg (fun h => hx h.1), Int.add_zero]
    rfl
/-- Does it say a link from a to b? -/
def oneF (c : DConf) (a b : Int) : Int := bif (bif bif rightF c.1 then c.1 == a else false then hasF c.2.2.1 b else false) then 1 else 0
def cntF : List DConf → Int → Int → Int
  | [], _, _ => 0
  | c :: l, a, b => oneF c a b + cntF l a b
theorem gM_incs {c : DConf} (hc : rightF c.1 = true) {x y : Int} (h4 : 0 ≤ x) (h5 : 0 ≤ y) : ∀ (k : Nat) (i : Int) {m : DMat} {B : Int}, matOK m B → 0 ≤ i → i + k ≤ 16 → gM (incs c k i m) x y = gM m x y + if c.1 = x ∧ i ≤ y ∧ y < i + k ∧ hasF c.2.2.1 y = true then 1 else 0
  | 0, i, m, B, hm, _, _ => by
    rw [if_neg (by rintro ⟨_, h1, h2, _⟩; omega), Int.add_zero]
    rfl
  | k + 1, i, m, B, hm, h0, h1 => by
    have hr := right_in hc
    unfold incs
    cases hh : hasF c.2.2.1 i with
    | true =>
      rw [cond_true, gM_incs hc h4 h5 k (i + 1) (inc_ok hm hr.1 hr.2 h0 (by omega)) (by omega) (by omega), gM_inc hm hr.1 hr.2 h0 (by omega) h4 h5]
      by_cases hy : i = y
      · subst hy
        rw [if_neg (show ¬ (c.1 = x ∧ i + 1 ≤ i ∧ i < i + 1 + (k : Int) ∧ hasF c.2.2.1 i = true) by rintro ⟨_, h, _⟩; omega), Int.add_zero]
        by_cases hx : c.1 = x
        · rw [if_pos ⟨hx, rfl⟩, if_pos ⟨hx, Int.le_refl _, by omega, hh⟩]
        · rw [if_neg (fun h => hx h.1), if_neg (fun h => hx h.1)]
      · rw [if_neg (show ¬ (c.1 = x ∧ i = y) from fun h => hy h.2), Int.add_zero]
        congr 1
        by_cases hq : c.1 = x ∧ i + 1 ≤ y ∧ y < i + 1 + (k : Int) ∧ hasF c.2.2.1 y = true
        · rw [if_pos hq, if_pos ⟨hq.1, by omega, by omega, hq.2.2.2⟩]
        · rw [if_neg hq, if_neg fun h => hq ⟨h.1, by omega, by omega, h.2.2.2⟩]
    | false =>
      rw [cond_false, gM_incs hc h4 h5 k (i + 1) hm (by omega) (by omega)]
      congr 1
      by_cases hq : c.1 = x ∧ i + 1 ≤ y ∧ y < i + 1 + (k : Int) ∧ hasF c.2.2.1 y = true
      · rw [if_pos hq, if_pos ⟨hq.1, by omega, by omega, hq.2.2.2⟩]
      · rw [if_neg hq, if_neg]
        rintro ⟨h6, h7, h8, h9⟩
        by_cases hy : i = y
        · subst hy; rw [hh] at h9; cases h9
        · exact hq ⟨h6, by omega, by omega, h9⟩
theorem gM_matL {x y : Int} (h4 : 0 ≤ x) (h5 : 0 ≤ y) (h6 : y < 16) : ∀ (l : List DConf) {m : DMat} {B : Int}, matOK m B → gM (matL m l) x y = gM m x y + cntF l x y
  | [], m, B, hm => by show gM m x y = gM m x y + 0; omega
  | c :: l, m, B, hm => by
    unfold matL cntF
    cases hc : rightF c.1 with
    | true =>
      show gM (matL (incs c 16 0 m) l) x y = _
      rw [gM_matL h4 h5 h6 l (incs_ok hc 16 0 hm (Int.le_refl _) (by omega)), gM_incs hc h4 h5 16 0 hm (Int.le_refl _) (by omega), Int.add_assoc]
      congr 1
      congr 1
      unfold oneF
      rw [hc, cond_true]
      by_cases hx : c.1 = x
      · rw [show (c.1 == x) = true by rw [hx]; exact beq_self_eq_true _, cond_true]
        cases hh : hasF c.2.2.1 y with
        | true => rw [if_pos ⟨hx, h5, by omega, rfl⟩]; rfl
        | false => rw [if_neg (fun h => by cases h.2.2.2)]; rfl
      · rw [show (c.1 == x) = false by simpa using hx, if_neg (fun h => hx h.1)]; rfl
    | false =>
      show gM (matL m l) x y = _
      rw [gM_matL h4 h5 h6 l hm]
      unfold oneF
      rw [hc]
      show _ = gM m x y + (0 + cntF l x y)
      rw [Int.zero_add]
theorem getD_rep {α : Type} (n k : Nat) (v : α) : (List.replicate n v).getD k v = v := by
  rw [List.getD_eq_getElem?_getD, List.getElem?_replicate]
  split <;> rfl
theorem gM_zero (x y : Int) : gM zeroM x y = 0 := by
  unfold gM zeroM
  rw [getD_rep, getD_rep]
theorem sumT_congr {f g : Int → Int} : ∀ (k : Nat) (i : Int), (∀ j, i ≤ j → j < i + k → f j = g j) → sumT f k i = sumT g k i
  | 0, _, _ => rfl
  | k + 1, i, h => by
    unfold sumT
    rw [h i (Int.le_refl _) (by omega), sumT_congr k (i + 1) fun j h1 h2 => h j (by omega) (by omega)]
theorem sumT_add (f g : Int → Int) : ∀ (k : Nat) (i : Int), sumT (fun j => f j + g j) k i = sumT f k i + sumT g k i
  | 0, _ => rfl
  | k + 1, i => by
    unfold sumT
    rw [sumT_add f g k (i + 1)]
    omega
theorem sumT_zero {f : Int → Int} : ∀ (k : Nat) (i : Int), (∀ j, i ≤ j → j < i + k → f j = 0) → sumT f k i = 0
  | 0, _, _ => rfl
  | k + 1, i, h => by
    unfold sumT
    rw [h i (Int.le_refl _) (by omega), sumT_zero k (i + 1) fun j h1 h2 => h j (by omega) (by omega)]
    rfl
theorem sumT_one {f : Int → Int} (t : Int) : ∀ (k : Nat) (i : Int), (∀ j, j ≠ t → f j = 0) → sumT f k i = if i ≤ t ∧ t < i + k then f t else 0
  | 0, i, _ => by rw [if_neg (by omega)]; rfl
  | k + 1, i, h => by
    unfold sumT
    rw [sumT_one t k (i + 1) h]
    by_cases hi : i = t
    · subst hi
      rw [if_neg (by omega), if_pos (by omega), Int.add_zero]
    · rw [h i hi, Int.zero_add]
      by_cases hq : i + 1 ≤ t ∧ t < i + 1 + (k : Int)
      · rw [if_pos hq, if_pos (by omega)]
      · rw [if_neg hq, if_neg (by omega)]
def pairS (f : Int → Int → Int) : Int := sumT (fun a => sumT (f a) (15 - a).toNat (a + 1)) 16 0
theorem pairS_congr {f g : Int → Int → Int} (h : ∀ a b, 0 ≤ a → a < 16 → 0 ≤ b → b < 16 → f a b = g a b) : pairS f = pairS g :=
  sumT_congr 16 0 fun a h1 h2 => sumT_congr _ _ fun b h3 h4 => h a b h1 (by omega) (by omega) (by omega)
theorem pairS_add (f g : Int → Int → Int) : pairS (fun a b => f a b + g a b) = pairS f + pairS g := by
  unfold pairS
  rw [← sumT_add]
  exact sumT_congr 16 0 fun a _ _ => sumT_add (f a) (g a) _ _
theorem pairS_zero : pairS (fun _ _ => 0) = 0 := sumT_zero 16 0 fun a _ _ => sumT_zero _ _ fun _ _ _ => rfl
theorem one_no {c : DConf} {a b : Int} (h : a ≠ c.1) : oneF c a b = 0 := by
  unfold oneF
  rw [show (c.1 == a) = false by simpa using fun h2 => h h2.symm]
  cases rightF c.1 <;> rfl
theorem pair_two (c d : DConf) : pairS (fun a b => oneF c a b * oneF d b a) = bif pairF c d then 1 else 0 := by
  unfold pairS
  have h1 : ∀ a, sumT (fun b => oneF c a b * oneF d b a) (15 - a).toNat (a + 1) = if a + 1 ≤ d.1 ∧ d.1 < a + 1 + ((15 - a).toNat : Int) then oneF c a d.1 * oneF d d.1 a else 0 := fun a =>
    sumT_one d.1 _ _ fun j hj => by rw [one_no (c := d) hj, Int.mul_zero]
  rw [sumT_congr 16 0 (g := fun a => if a + 1 ≤ d.1 ∧ d.1 < a + 1 + ((15 - a).toNat : Int) then oneF c a d.1 * oneF d d.1 a else 0) fun a _ _ => h1 a]
  rw [sumT_one c.1 16 0 fun j hj => by
    show (if j + 1 ≤ d.1 ∧ d.1 < j + 1 + ((15 - j).toNat : Int) then oneF c j d.1 * oneF d d.1 j else 0) = 0
    rw [one_no (c := c) hj, Int.zero_mul]
    split <;> rfl]
  unfold pairF oneF
  rw [beq_self_eq_true, beq_self_eq_true]
  have hd : hasF c.2.2.1 d.1 = true → rightF d.1 = true := fun h => by
    unfold hasF at h
    cases hr : rightF d.1 with
    | true => rfl
    | false => rw [hr] at h; cases h
  have hc : hasF d.2.2.1 c.1 = true → rightF c.1 = true := fun h => by
    unfold hasF at h
    cases hr : rightF c.1 with
    | true => rfl
    | false => rw [hr] at h; cases h
  cases h1 : hasF c.2.2.1 d.1 with
  | false =>
    have e : (bif (bif bif rightF c.1 then true else false then false else false) then (1 : Int) else 0) = 0 := by cases rightF c.1 <;> rfl
    rw [e, Int.zero_mul]
    cases decide (c.1 < d.1) <;> (simp only [cond_true, cond_false]; split <;> (try split) <;> rfl)
  | true =>
    cases h2 : hasF d.2.2.1 c.1 with
    | false =>
      have e : (bif (bif bif rightF d.1 then true else false then false else false) then (1 : Int) else 0) = 0 := by cases rightF d.1 <;> rfl
      rw [e, Int.mul_zero]
      cases decide (c.1 < d.1) <;> (simp only [cond_true, cond_false]; split <;> (try split) <;> rfl)
    | true =>
      have rc := right_in (hc h2)
      have rd := right_in (hd h1)
      rw [hc h2, hd h1]
      by_cases hlt : c.1 < d.1
      · rw [decide_eq_true hlt, if_pos (by omega), if_pos (by omega)]
        rfl
      · rw [decide_eq_false hlt, if_pos (by omega), if_neg (by omega)]
        rfl
theorem pairs_one (c : DConf) : ∀ l : List DConf, pairS (fun a b => oneF c a b * cntF l b a) = cntP c l
  | [] => by
    rw [pairS_congr (g := fun _ _ => 0) fun a b _ _ _ _ => by show oneF c a b * 0 = 0; rw [Int.mul_zero]]
    exact pairS_zero
  | d :: l => by
    rw [pairS_congr (g := fun a b => oneF c a b * oneF d b a + oneF c a b * cntF l b a) fun a b _ _ _ _ => by show oneF c a b * (oneF d b a + cntF l b a) = _; rw [Int.mul_add]]
    rw [pairS_add, pair_two, pairs_one c l]
    rfl
theorem pair_all (l0 : List DConf) : ∀ l : List DConf, pairS (fun a b => cntF l a b * cntF l0 b a) = allP l0 l
  | [] => by
    rw [pairS_congr (g := fun _ _ => 0) fun a b _ _ _ _ => by show 0 * cntF l0 b a = 0; rw [Int.zero_mul]]
    exact pairS_zero
  | c :: l => by
    rw [pairS_congr (g := fun a b => oneF c a b * cntF l0 b a + cntF l a b * cntF l0 b a) fun a b _ _ _ _ => by show (oneF c a b + cntF l a b) * cntF l0 b a = _; rw [Int.add_mul]]
    rw [pairS_add, pairs_one, pair_all l0 l]
    rfl
/-- Both ways to count answer the same. -/
theorem links_same (l : List DConf) : linksF l = allP l l := by
  rw [← pair_all l l]
  show pairS (prodM (matL zeroM l)) = _
  refine pairS_congr fun a b h1 h2 h3 h4 => ?_
  unfold prodM
  rw [gM_matL h1 h3 h4 l zeroM_ok, gM_matL h3 h1 h2 l zeroM_ok, gM_zero, gM_zero, Int.zero_add, Int.zero_add]
end Go.Ev
/- What is printed of several configurations is cut and parsed back, in plain Lean. -/
set_option linter.unusedVariables false
set_option linter.unusedSimpArgs false
namespace Go.Ev
def tailF (q : List UInt8) : Nat := bif q.isEmpty || beginsF q then 0 else endF q
theorem end_line2 {p : List UInt8} (q : List UInt8) (h : (10 : UInt8) ∉ p) : endF (p ++ 10 :: q) = p.length + 1 + tailF q := by
  rw [end_line q h]
  unfold tailF
  cases q.isEmpty || beginsF q <;> rfl
theorem rest_line {b : UInt8} {p : List UInt8} (q : List UInt8) (h : (10 : UInt8) ∉ b :: p) (hb : beginsF (b :: p ++ 10 :: q) = false) : tailF (b :: p ++ 10 :: q) = (b :: p).length + 1 + tailF q := by
  rw [← end_line2 q h]
  show (bif ((b :: p ++ 10 :: q).isEmpty || beginsF (b :: p ++ 10 :: q)) then 0 else endF (b :: p ++ 10 :: q)) = _
  rw [hb]
  rfl
theorem node_ten {n : Int} (h0 : 0 ≤ n) (h1 : n < 16) : (10 : UInt8) ∉ nodeT n := by
  unfold nodeT
  intro h
  simp only [List.mem_append, List.mem_cons, List.not_mem_nil, or_false] at h
  rcases h with h | h | h
  · revert h; decide
  · revert h; decide
  · exact let_ten h0 h1 h.symm
theorem rule_ten (r : DRules) : (10 : UInt8) ∉ ruleT r := by
  unfold ruleT
  intro h
  simp only [List.mem_append, List.mem_cons] at h
  rcases h with h | h | h | h | h | h | h | h | h
  · revert h; decide
  · revert h; decide
  · exact digN_not 10 (by decide) _ h
  · revert h; decide
  · exact digN_not 10 (by decide) _ h
  · revert h; decide
  · exact digN_not 10 (by decide) _ h
  · revert h; decide
  · exact digN_not 10 (by decide) _ h
theorem rest_links {c : DCosts} {q : List UInt8} (hq : tailF q = 0) : ∀ l : List Int, (∀ j ∈ l, 0 ≤ j ∧ j < 16) → tailF (linesB c l ++ q) = (linesB c l).length
  | [], _ => hq
  | j :: l, h => by
    have hj := h j (List.mem_cons_self ..)
    have ih := rest_links (c := c) hq l fun i hi => h i (List.mem_cons_of_mem _ hi)
    rw [lines_cons, lineB_lnk hj.1 hj.2]
    have e : lnkT c j ++ [10] ++ linesB c l ++ q = lnkT c j ++ 10 :: (linesB c l ++ q) := by simp only [List.append_assoc, List.cons_append, List.nil_append]
    rw [e]
    have h2 : tailF (lnkT c j ++ 10 :: (linesB c l ++ q)) = (lnkT c j).length + 1 + tailF (linesB c l ++ q) := rest_line _ (lnk_ten hj.1 hj.2) rfl
    rw [h2, ih]
    simp only [List.length_append, List.length_cons, List.length_nil]
/-- What is printed is one piece. -/
theorem end_print {c : DConf} (h : ((printF c).2 == (0 : Int)) = true) {q : List UInt8} (hq : tailF q = 0) : endF ((printF c).1 ++ q) = (printF c).1.length ∧ beginsF ((printF c).1 ++ q) = true ∧ (printF c).1.length ≤ 600 ∧ (printF c).1 ≠ [] := by
  obtain ⟨⟨n0, n1⟩, hs, ⟨b1, b2, b3, b4⟩, hp⟩ := print_cases h
  have hel : ∀ j ∈ elemsF c.2.2.1 16, 0 ≤ j ∧ j < 16 := fun j hj => ⟨(elem_in (Nat.le_refl 16) hj).1, (elem_in (Nat.le_refl 16) hj).2.1⟩
  rw [hp, head_lines n0 n1 b1 b2 b3 b4]
  generalize hL : elemsF c.2.2.1 16 = L at hel
  have hLl : L.length ≤ 16 := by rw [← hL]; exact elems_len _ _
  have e : nodeT c.1 ++ 10 :: (ruleT c.2.1 ++ [10]) ++ linesB c.2.2 L ++ q = nodeT c.1 ++ 10 :: (ruleT c.2.1 ++ 10 :: (linesB c.2.2 L ++ q)) := by simp only [List.append_assoc, List.cons_append, List.nil_append]
  refine ⟨?_, ?_, ?_, ?_⟩
  · rw [e, end_line2 _ (node_ten n0 n1)]
    have h2 : tailF (ruleT c.2.1 ++ 10 :: (linesB c.2.2 L ++ q)) = (ruleT c.2.1).length + 1 + tailF (linesB c.2.2 L ++ q) := rest_line _ (rule_ten c.2.1) rfl
    rw [h2, rest_links hq L hel]
    simp only [List.length_append, List.length_cons, List.length_nil]
    omega
  · rw [e]; rfl
  · have hl : ∀ l : List Int, (∀ j ∈ l, 0 ≤ j ∧ j < 16) → (linesB c.2.2 l).length ≤ 28 * l.length := by
      intro l
      induction l with
      | nil => intro _; exact Nat.le_refl _
      | cons j l ih =>
        intro h
        have hj := h j (List.mem_cons_self ..)
        have ih := ih fun i hi => h i (List.mem_cons_of_mem _ hi)
        have hd := digN_len 20 (c.2.2.2.getD j.toNat 0).toNat
        rw [lines_cons, lineB_lnk hj.1 hj.2]
        unfold lnkT wLink natT
        simp only [List.length_append, List.length_cons, List.length_nil]
        omega
    have h1 := hl L hel
    have q1 := digN_len 20 c.2.1.1.toNat
    have q2 := digN_len 20 c.2.1.2.1.toNat
    have q3 := digN_len 20 c.2.1.2.2.1.toNat
    have q4 := digN_len 20 c.2.1.2.2.2.toNat
    show (nodeT c.1 ++ 10 :: (ruleT c.2.1 ++ [10]) ++ linesB c.2.2 L).length ≤ 600
    unfold nodeT ruleT wNode wRules natT
    simp only [List.length_append, List.length_cons, List.length_nil]
    omega
  · intro hn
    have := congrArg List.length hn
    revert this
    unfold nodeT wNode
    simp
def textsP (l : List DConf) : List UInt8 := l.flatMap fun c => (printF c).1
theorem texts_cons (c : DConf) (l : List DConf) : textsP (c :: l) = (printF c).1 ++ textsP l := rfl
theorem pa_texts : ∀ (l : List DConf) (p : Option Int) (o : List UInt8), ((paGo p o l).2 == (0 : Int)) = true → (paGo p o l).1 = o ++ textsP l ∧ ∀ c ∈ l, ((printF c).2 == (0 : Int)) = true
  | [], _, o, _ => ⟨(List.append_nil o).symm, fun c h => by cases h⟩
  | c :: l, p, o, h => by
    unfold paGo at h ⊢
    cases hb : p.any (fun v => decide (c.1 ≤ v)) with
    | true => rw [hb] at h; cases h
    | false =>
      rw [hb] at h
      simp only [cond_false] at h ⊢
      cases he : (printF c).2 != 0 with
      | true =>
        rw [he] at h
        have h2 : ((printF c).2 == (0 : Int)) = true := h
        have h3 : (printF c).2 = 0 := eq_of_beq h2
        rw [h3] at he
        cases he
      | false =>
        rw [he] at h
        simp only [cond_false] at h ⊢
        obtain ⟨h1, h2⟩ := pa_texts l _ _ h
        have h3 : ((printF c).2 == (0 : Int)) = true := by
          have : (printF c).2 = 0 := by simpa using he
          rw [this]; rfl
        refine ⟨by rw [h1, texts_cons, List.append_assoc], fun d hd => ?_⟩
        rcases List.mem_cons.1 hd with rfl | hd
        · exact h3
        · exact h2 d hd
theorem rest_texts : ∀ l : List DConf, (∀ c ∈ l, ((printF c).2 == (0 : Int)) = true) → tailF (textsP l) = 0 ∧ (textsP l).length ≤ 600 * l.length
  | [], _ => ⟨rfl, Nat.le_refl _⟩
  | c :: l, h => by
    obtain ⟨h1, h2⟩ := rest_texts l fun d hd => h d (List.mem_cons_of_mem _ hd)
    obtain ⟨_, h4, h5, _⟩ := end_print (h c (List.mem_cons_self ..)) h1
    rw [texts_cons]
    refine ⟨?_, by rw [List.length_append, List.length_cons]; omega⟩
    unfold tailF
    rw [h4, Bool.or_true]
    rfl
/-- Piece by piece. -/
theorem pg_texts : ∀ (l : List DConf), (∀ c ∈ l, ((printF c).2 == (0 : Int)) = true) → (∀ c ∈ l, c.2.2.2.length = 16) → ∀ (k : Int) (o : List DConf), 0 ≤ k → k + l.length ≤ 100 → o.length + l.length ≤ 100 → l.length ≤ 8 → ∃ n : Int, pgRun ((0, 0, textsP l, k, ()), o, ()) = (.exit 0, ((0, 0, [], n, ()), o ++ l, ()))
  | [], _, _, k, o, _, _, _, _ => ⟨k, by rw [List.append_nil]; rfl⟩
  | c :: l, h, hw, k, o, h0, h1, h2, h3 => by
    have hl : ∀ d ∈ l, ((printF d).2 == (0 : Int)) = true := fun d hd => h d (List.mem_cons_of_mem _ hd)
    have hc := h c (List.mem_cons_self ..)
    obtain ⟨r1, r2⟩ := rest_texts l hl
    obtain ⟨p1, p2, p3, p4⟩ := end_print hc r1
    obtain ⟨_, r4⟩ := rest_texts (c :: l) h
    rw [List.length_cons] at h1 h2 h3 r4
    have hpp : pgPre ((0, 0, textsP (c :: l), k, ()), o, ()) := ⟨h0, by show k + ((textsP (c :: l)).length : Int) ≤ 20000; omega, by show o.length + (textsP (c :: l)).length ≤ 20000; omega, by show (textsP (c :: l)).length ≤ 8000; omega⟩
    have hne : textsP (c :: l) ≠ [] := fun hn => by
      rw [texts_cons] at hn
      exact p4 (List.append_eq_nil_iff.1 hn).1
    have hne2 : (textsP (c :: l) != []) = true := by simpa using hne
    have e1 : endF (textsP (c :: l)) = (printF c).1.length := p1
    have e2 : (textsP (c :: l)).take (endF (textsP (c :: l))) = (printF c).1 := by rw [e1, texts_cons, List.take_left]
    have e3 : (textsP (c :: l)).drop (endF (textsP (c :: l))) = textsP l := by rw [e1, texts_cons, List.drop_left]
    have e4 := print_parse (hw c (List.mem_cons_self ..)) hc
    have hst : pgStp ((0, 0, textsP (c :: l), k, ()), o, ()) = (.normal, ((0, 0, textsP l, k + 1, ()), o ++ [c], ())) := by
      unfold pgStp
      simp only
      rw [hne2, e2, e3, e4]
      rfl
    rw [pgRun_go hpp hst]
    obtain ⟨n, hn⟩ := pg_texts l hl (fun d hd => hw d (List.mem_cons_of_mem _ hd)) (k + 1) (o ++ [c]) (by omega) (by omega) (by rw [List.length_append, List.length_singleton]; omega) (by omega)
    exact ⟨n, by rw [hn, List.append_assoc]; rfl⟩
/-- What is printed is parsed back. -/
theorem pg_back {l : List DConf} (hw : ∀ c ∈ l, c.2.2.2.length = 16) (h : ((paF l).2 == (0 : Int)) = true) : pgF (paF l).1 = (l, 0, 0) := by
  have h8 : ¬ (l.length : Int) > 8 := fun h8 => by
    unfold paF at h
    rw [decide_eq_true h8] at h
    cases h
  have hpa : paF l = paGo none [] l := by
    unfold paF
    rw [decide_eq_false h8]
    rfl
  have hp := h
  rw [hpa] at h
  obtain ⟨h1, h2⟩ := pa_texts l _ _ h
  rw [List.nil_append] at h1
  obtain ⟨_, r2⟩ := rest_texts l h2
  obtain ⟨n, hn⟩ := pg_texts l h2 hw 1 [] (by omega) (by omega) (by show 0 + l.length ≤ 100; omega) (by omega)
  have e : (paF l).1 = textsP l := by rw [hpa, h1]
  rw [e]
  unfold pgF
  rw [decide_eq_false (show ¬ ((textsP l).length : Int) > 8000 by omega), cond_false]
  have hr : runF pgStp ((textsP l).length + 1) (pgSt (textsP l)) = (.exit 0, ((0, 0, [], n, ()), l, ())) := hn
  rw [hr]
  unfold pgEnd
  have e0 : (paF l).2 = 0 := eq_of_beq hp
  show (bif (bif (paF l).2 != 0 then true else (paF l).1 != textsP l) then _ else (l, (0 : Int), (0 : Int))) = _
  rw [e0, e]
  simp
/-- What is parsed was printed so; what is not parsed is nothing. -/
theorem pg_good {s : List UInt8} (h : ((pgF s).2.2 != (0 : Int)) = false) : (paF (pgF s).1).2 = 0 ∧ (paF (pgF s).1).1 = s := by
  unfold pgF at h ⊢
  by_cases hs : (s.length : Int) > 8000
  · rw [decide_eq_true hs] at h; cases h
  · rw [decide_eq_false hs] at h ⊢
    simp only [cond_false] at h ⊢
    have hret : ∀ n x, pgMu x < n → pgPre x → isRet (runF pgStp n x).1 = true → ((runF pgStp n x).2.1.2.1 != 0) = true := fun n x hn hp =>
      runF_inv (J := pgPre) (Post := fun q => isRet q.1 = true → (q.2.1.2.1 != 0) = true) (μ := pgMu) (fun x hp => ⟨fun hn => pg_go hp hn, fun hn hr => by
        unfold pgStp at hr ⊢
        cases h1 : x.1.2.2.1 != [] with
        | false => rw [h1] at hr; cases hr
        | true =>
          rw [h1] at hr
          cases h2 : (parseF (x.1.2.2.1.take (endF x.1.2.2.1))).2.2 != 0 with
          | false => rw [h2] at hr; cases hr
          | true => exact h2⟩) n x hp hn
    have hq := hret (s.length + 1) (pgSt s) (Nat.lt_succ_self _) (pg_pre hs)
    revert h hq
    generalize runF pgStp (s.length + 1) (pgSt s) = q
    intro h hq
    unfold pgEnd at h ⊢
    cases hr : isRet q.1 with
    | true =>
      rw [hr] at h
      have := hq hr
      rw [show ((q.2.1.2.1 != 0) = false) from h] at this
      cases this
    | false =>
      rw [hr] at h
      simp only [cond_false] at h ⊢
      cases hb : (bif (paF q.2.2.1).2 != 0 then true else (paF q.2.2.1).1 != s) with
      | true => rw [hb] at h; cases h
      | false =>
        simp only [cond_false]
        cases h1 : (paF q.2.2.1).2 != 0 with
        | true => rw [h1] at hb; cases hb
        | false =>
          rw [h1] at hb
          simp only [cond_false] at hb
          exact ⟨by simpa using h1, by simpa using hb⟩
theorem pg_bad {s : List UInt8} (h : ((pgF s).2.2 != (0 : Int)) = true) : (pgF s).1 = [] := by
  unfold pgF at h ⊢
  cases hs : decide ((s.length : Int) > 8000) with
  | true => rfl
  | false =>
    rw [hs] at h
    simp only [cond_false] at h ⊢
    generalize runF pgStp (s.length + 1) (pgSt s) = q at h ⊢
    unfold pgEnd at h ⊢
    cases hr : isRet q.1 with
    | true => rfl
    | false =>
      rw [hr] at h
      simp only [cond_false] at h ⊢
      cases hb : (bif (paF q.2.2.1).2 != 0 then true else (paF q.2.2.1).1 != s) with
      | true => rfl
      | false => rw [hb] at h; cases h
theorem pa_len {l : List DConf} (h : (paF l).2 = 0) : l.length ≤ 8 := by
  by_cases h8 : (l.length : Int) > 8
  · unfold paF at h
    rw [decide_eq_true h8] at h
    cases h
  · omega
theorem pg_len (s : List UInt8) : (pgF s).1.length ≤ 8 := by
  cases h : ((pgF s).2.2 != (0 : Int)) with
  | false => exact pa_len (pg_good h).1
  | true => rw [pg_bad h]; exact Nat.zero_le _
theorem pg_at {s : List UInt8} {l : List DConf} (h : pgF s = (l, 0, 0)) : (pgF s).1 = l ∧ (pgF s).2.1 = 0 ∧ (pgF s).2.2 = 0 := by rw [h]; exact ⟨rfl, rfl, rfl⟩
end Go.Ev
