/- Counts, in plain Lean. -/
import Derived.Conc.LoneCalls
import Derived.Conc.SmallLaws
import Derived.Test.YtohodbfoeejbjaaDoorTextConfBack5

set_option linter.unusedVariables false
set_option linter.unusedSimpArgs false
namespace Go.Ev
/-- A row gone through, place by place: what is behind place i is still to be turned. -/
def restF (n : Nat) (f : Nat → Int → Int) (i : Nat) (o : List Int) : List Int := (List.range n).map fun j => bif Nat.blt j i then o.getD j 0 else f j (o.getD j 0)
theorem blt_true {j i : Nat} (h : j < i) : Nat.blt j i = true := by rw [Nat.blt_eq]; exact h
theorem blt_false {j i : Nat} (h : ¬ j < i) : Nat.blt j i = false := by
  cases hb : Nat.blt j i with
  | false => rfl
  | true => rw [Nat.blt_eq] at hb; exact absurd hb h
theorem getD_set {o : List Int} {i j : Nat} {v : Int} (h : i < o.length) : (o.set i v).getD j 0 = if i = j then v else o.getD j 0 := by
  simp only [List.getD, List.getElem?_set]
  by_cases hij : i = j
  · subst hij; simp [h]
  · simp [hij]
theorem restF_step {n : Nat} {f : Nat → Int → Int} {i : Nat} {o : List Int} (ho : o.length = n) (hi : i < n) : restF n f (i + 1) (o.set i (f i (o.getD i 0))) = restF n f i o := by
  unfold restF
  refine List.map_congr_left fun j hj => ?_
  rw [getD_set (by omega)]
  by_cases h1 : j < i
  · rw [blt_true h1, blt_true (by omega), if_neg (by omega)]
  · by_cases h2 : i = j
    · subst h2
      rw [blt_true (by omega), blt_false (by omega), if_pos rfl]; rfl
    · rw [blt_false h1, blt_false (by omega), if_neg h2]
theorem restF_end {n : Nat} {f : Nat → Int → Int} {o : List Int} (ho : o.length = n) : restF n f n o = o := by
  unfold restF
  refine List.ext_getElem (by simp [ho]) fun j h1 h2 => ?_
  have : j < n := by rw [ho] at h2; exact h2
  simp [blt_true this, List.getD, h2]
theorem restF_get {n : Nat} {f : Nat → Int → Int} {o : List Int} {j : Nat} (hj : j < n) : (restF n f 0 o).getD j 0 = f j (o.getD j 0) := by
  unfold restF
  simp [List.getD, hj, blt_false (Nat.not_lt_zero j)]
theorem restF_len {n : Nat} {f : Nat → Int → Int} {i : Nat} {o : List Int} : (restF n f i o).length = n := by simp [restF]
theorem list_ext {n : Nat} {a b : List Int} (ha : a.length = n) (hb : b.length = n) (h : ∀ j, j < n → a.getD j 0 = b.getD j 0) : a = b := by
  refine List.ext_getElem (by omega) fun j h1 h2 => ?_
  have := h j (by omega)
  simpa [List.getD, h1, h2] using this
theorem set_same {o : List Int} {i : Nat} (h : i < o.length) : o.set i (o.getD i 0) = o :=
  list_ext (n := o.length) (by simp) rfl fun j hj => by
    rw [getD_set h]
    split
    · rename_i e; rw [e]
    · rfl
/-- A count, and n more. -/
def satF (a n : Int) : Int := bif bif bif decide (n ≤ 0) then true else decide (a < 0) then true else decide (a > (1152921504606846976 : Int)) then a else a + min n ((1152921504606846976 : Int) - a)
def inF (w : Int) : Bool := bif decide (w < 0) then false else decide (w < 8)
def caddF (l : List Int) (w n : Int) : List Int := bif inF w then l.set w.toNat (satF (l.getD w.toNat 0) n) else l
def cgetF (l : List Int) (w : Int) : Int := bif inF w then l.getD w.toNat 0 else 0
def plusF (o x : List Int) : List Int := restF 8 (fun j v => satF v (x.getD j 0)) 0 o
def csumF (l : List (List Int)) : List Int := l.foldl plusF (List.replicate 8 0)
def difB (old now : List Int) (j : Nat) : Bool := bif decide (old.getD j 0 ≥ 0) then decide (now.getD j 0 > old.getD j 0) else false
def cdiffF (old now : List Int) : List Int := restF 8 (fun j v => bif difB old now j then now.getD j 0 - old.getD j 0 else v) 0 (List.replicate 8 0)
def wordsL : List (List UInt8) := [[102, 114, 97, 109, 101, 115], [98, 97, 100], [111, 108, 100], [104, 101, 114, 101], [111, 110], [116, 116, 108], [110, 111, 110, 101], [114, 101, 115, 101, 116]]
def digF (n : Int) : List UInt8 := bif decide (n < 0) then [45] else natT n.toNat
def pieceF (i : Nat) (n : Int) : List UInt8 :=
  bif n == 0 then [] else ((wordsL.getD i [] ++ [32]) ++ digF n) ++ [10]
def textK (l : List Int) : Nat → List UInt8
  | 0 => []
  | k + 1 => pieceF (7 - k) (l.getD (7 - k) 0) ++ textK l k
def ctextF (l : List Int) : List UInt8 := textK l 8
theorem digF_len (n : Int) : (digF n).length ≤ 20 := by
  unfold digF natT
  have h2 := digN_len 20 n.toNat
  cases decide (n < 0) <;> simp <;> omega
theorem words_len (i : Nat) : (wordsL.getD i []).length ≤ 6 := by
  match i with
  | 0 | 1 | 2 | 3 | 4 | 5 | 6 | 7 => decide
  | i + 8 => simp [wordsL, List.getD]
theorem pieceF_len (i : Nat) (n : Int) : (pieceF i n).length ≤ 28 := by
  unfold pieceF
  have h1 := words_len i
  have h2 := digF_len n
  cases n == 0 with
  | true => simp
  | false => simp only [cond_false, List.length_append, List.length_cons, List.length_nil]; omega
theorem itoa_pos {n : Int} (h : 0 < n) : itoaF n = digF n := by
  unfold itoaF digF
  have : decide (n < 0) = false := by simp; omega
  rw [this]; rfl
theorem satF_id {a n : Int} (h : n ≤ 0 ∨ a < 0 ∨ a > (1152921504606846976 : Int)) : satF a n = a := by
  unfold satF
  have : (bif bif decide (n ≤ 0) then true else decide (a < 0) then true else decide (a > (1152921504606846976 : Int))) = true := by
    rcases h with h | h | h
    · simp [h]
    · cases decide (n ≤ 0) <;> simp [h]
    · cases decide (n ≤ 0) <;> cases decide (a < 0) <;> simp [h]
  rw [this]; rfl
theorem satF_go {a n : Int} (h1 : 0 < n) (h2 : 0 ≤ a) (h3 : a ≤ (1152921504606846976 : Int)) : satF a n = a + min n ((1152921504606846976 : Int) - a) := by
  unfold satF
  have e1 : decide (n ≤ 0) = false := by simp; omega
  have e2 : decide (a < 0) = false := by simp; omega
  have e3 : decide (a > (1152921504606846976 : Int)) = false := by simp; omega
  rw [e1, e2, e3]; rfl
theorem sat_stop {v n : Int} (h : (bif bif decide (n ≤ 0) then true else decide (v < 0) then true else decide (v > (1152921504606846976 : Int))) = true) : satF v n = v := by
  unfold satF; rw [h]; rfl
theorem sat_neg {v n : Int} (h : (bif decide (n ≤ 0) then true else decide (v < 0)) = true) : satF v n = v := by
  unfold satF; rw [h]; rfl
theorem sat_pos {v n : Int} (h : (bif decide (n ≤ 0) then true else decide (v < 0)) = false) : 0 < n ∧ 0 ≤ v := by
  cases h1 : decide (n ≤ 0) with
  | true => rw [h1] at h; cases h
  | false =>
    rw [h1] at h
    have h1' := of_decide_eq_false h1
    have h2' : ¬ v < 0 := of_decide_eq_false h
    omega
theorem cadd_at {o : List Int} {i n : Int} (h0 : 0 ≤ i) (h1 : i < 8) : caddF o i n = o.set i.toNat (satF (o.getD i.toNat 0) n) := by
  unfold caddF inF
  have e1 : decide (i < 0) = false := by simp; omega
  have e2 : decide (i < 8) = true := by simp; omega
  rw [e1, e2]; rfl
theorem diff_at {o old now : List Int} {i : Nat} (ho : o.length = 8) (hi : i < 8) (hn : IntKind.i64.has (now.getD i 0)) :
    (bif difB old now i then o.set i (IntKind.wrap IntKind.i64 (now.getD i 0 - old.getD i 0)) else o) = o.set i (bif difB old now i then now.getD i 0 - old.getD i 0 else o.getD i 0) := by
  rw [has_i64] at hn
  cases h : difB old now i with
  | false =>
    show o = o.set i (o.getD i 0)
    rw [set_same (by omega)]
  | true =>
    unfold difB at h
    cases h1 : decide (old.getD i 0 ≥ 0) with
    | false => rw [h1] at h; cases h
    | true =>
      rw [h1] at h
      have h1' := of_decide_eq_true h1
      have h2' : now.getD i 0 > old.getD i 0 := of_decide_eq_true h
      simp only [cond_true]
      rw [i64_id (by omega) (by omega)]
theorem restF_all {n : Nat} {f : Nat → Int → Int} {i : Nat} {o : List Int} (ho : o.length = n) (hi : n ≤ i) : restF n f i o = o := by
  unfold restF
  refine List.ext_getElem (by simp [ho]) fun j h1 h2 => ?_
  have : j < i := by omega
  simp [blt_true this, List.getD, h2]
theorem drop_row {l : List (List Int)} {i : Int} (d : List Int) (h0 : 0 ≤ i) (h1 : i < l.length) : l.drop i.toNat = l.getD i.toNat d :: l.drop (i + 1).toNat := by
  have hlt : i.toNat < l.length := by omega
  rw [List.drop_eq_getElem_cons hlt, show (i + 1).toNat = i.toNat + 1 by omega]
  simp [List.getD, hlt]
theorem dig_one {x : Int} (h0 : 0 ≤ x) (h1 : x < 10) : bytesToStr [IntKind.wrap IntKind.u8 (IntKind.wrap IntKind.i64 ((48 : Int) + x))] = digF x := by
  rw [show IntKind.wrap IntKind.i64 ((48 : Int) + x) = 48 + x from i64_id (by omega) (by omega), show IntKind.wrap IntKind.u8 ((48 : Int) + x) = 48 + x from u8_id (by omega) (by omega)]
  unfold digF natT
  have e : decide (x < 0) = false := by simp; omega
  have e2 : Nat.blt x.toNat 10 = true := blt_true (by omega)
  rw [e]
  show _ = (bif Nat.blt x.toNat 10 then _ else _)
  rw [e2]
  show [UInt8.ofNat (48 + x).toNat] = [UInt8.ofNat (48 + x.toNat)]
  rw [show (48 + x).toNat = 48 + x.toNat by omega]
theorem dig_more {x : Int} (h0 : ¬ x < 10) (h1 : x ≤ 9223372036854775807) : digF (IntKind.wrap IntKind.i64 (Int.tdiv x (10 : Int))) ++ bytesToStr [IntKind.wrap IntKind.u8 (IntKind.wrap IntKind.i64 ((48 : Int) + Int.tmod x (10 : Int)))] = digF x := by
  rw [Int.tdiv_eq_ediv_of_nonneg (by omega), Int.tmod_eq_emod_of_nonneg (by omega)]
  rw [show IntKind.wrap IntKind.i64 (x / 10) = x / 10 from i64_id (by omega) (by omega), show IntKind.wrap IntKind.i64 ((48 : Int) + x % 10) = 48 + x % 10 from i64_id (by omega) (by omega), show IntKind.wrap IntKind.u8 ((48 : Int) + x % 10) = 48 + x % 10 from u8_id (by omega) (by omega)]
  unfold digF natT
  have e : decide (x < 0) = false := by simp; omega
  have e1 : decide (x / 10 < 0) = false := by simp; omega
  have e2 : Nat.blt x.toNat 10 = false := blt_false (by omega)
  rw [e, e1]
  show digN 20 (x / 10).toNat ++ _ = (bif Nat.blt x.toNat 10 then _ else digN 19 (x.toNat / 10) ++ [UInt8.ofNat (48 + x.toNat % 10)])
  rw [e2]
  simp only [cond_false]
  rw [show (x / 10).toNat = x.toNat / 10 by omega, digN_more 19 (x.toNat / 10) (by omega) (by omega)]
  show _ ++ [UInt8.ofNat (48 + x % 10).toNat] = _
  rw [show (48 + x % 10).toNat = 48 + x.toNat % 10 by omega]
theorem textK_len (l : List Int) : ∀ k, (textK l k).length ≤ 28 * k
  | 0 => Nat.le_refl _
  | k + 1 => by
    have := textK_len l k
    have h2 := pieceF_len (7 - k) (l.getD (7 - k) 0)
    simp only [textK, List.length_append]
    omega
theorem piece_eq (out : List UInt8) (i : Nat) (v : Int) : (bif decide (v > 0) then out ++ (((wordsL.getD i [] ++ [32]) ++ itoaF v) ++ [10]) else bif decide (v < 0) then out ++ (wordsL.getD i [] ++ [32, 45, 10]) else out) = out ++ pieceF i v := by
  unfold pieceF
  by_cases hp : v > 0
  · have e1 : decide (v > 0) = true := by simpa using hp
    have e2 : (v == 0) = false := by simp; omega
    rw [e1, e2, itoa_pos hp]; rfl
  · have e1 : decide (v > 0) = false := by simpa using hp
    rw [e1]
    by_cases hn : v < 0
    · have e2 : decide (v < 0) = true := by simpa using hn
      have e3 : (v == 0) = false := by simp; omega
      rw [e2, e3]
      unfold digF
      rw [e2]
      simp
    · have e2 : decide (v < 0) = false := by simpa using hn
      have e3 : (v == 0) = true := by simp; omega
      rw [e2, e3]
      simp
theorem rpiece_eq (out : List UInt8) (i : Nat) (v : Int) : (bif v != 0 then out ++ (((wordsL.getD i [] ++ [32]) ++ digF v) ++ [10]) else out) = out ++ pieceF i v := by
  unfold pieceF
  cases h : v == 0 with
  | true => simp [bne, h]
  | false => simp [bne, h]
theorem text_step (out : List UInt8) (l : List Int) {i : Int} (h0 : 0 ≤ i) (h1 : i < 8) : (out ++ pieceF i.toNat (l.getD i.toNat 0)) ++ textK l (8 - (i + 1).toNat) = out ++ textK l (8 - i.toNat) := by
  have hk : 8 - i.toNat = (7 - i.toNat) + 1 := by omega
  rw [hk, show 8 - (i + 1).toNat = 7 - i.toNat by omega, List.append_assoc]
  show _ = out ++ (pieceF (7 - (7 - i.toNat)) (l.getD (7 - (7 - i.toNat)) 0) ++ textK l (7 - i.toNat))
  rw [show 7 - (7 - i.toNat) = i.toNat by omega]
theorem satF_ge {a n : Int} (h0 : 0 ≤ a) (h1 : a ≤ 1152921504606846976) : a ≤ satF a n ∧ satF a n ≤ 1152921504606846976 := by
  by_cases hn : n ≤ 0
  · rw [satF_id (.inl hn)]; omega
  · rw [satF_go (by omega) h0 h1]; omega
theorem caddF_len {l : List Int} {w n : Int} (h : l.length = 8) : (caddF l w n).length = 8 := by
  unfold caddF
  cases inF w with
  | true => simp [h]
  | false => exact h
theorem caddF_get {l : List Int} {w n : Int} (h : l.length = 8) (hl : ∀ j, 0 ≤ l.getD j 0 ∧ l.getD j 0 ≤ 1152921504606846976) (j : Nat) : l.getD j 0 ≤ (caddF l w n).getD j 0 ∧ (caddF l w n).getD j 0 ≤ 1152921504606846976 := by
  unfold caddF
  cases hi : inF w with
  | false => exact ⟨Int.le_refl _, (hl j).2⟩
  | true =>
    have hw : w.toNat < l.length := by
      unfold inF at hi
      cases h1 : decide (w < 0) with
      | true => rw [h1] at hi; cases hi
      | false =>
        rw [h1] at hi
        have h2 : w < 8 := of_decide_eq_true hi
        have := of_decide_eq_false h1
        omega
    simp only [cond_true]
    rw [getD_set hw]
    by_cases hj : w.toNat = j
    · rw [if_pos hj, ← hj]
      exact satF_ge (hl _).1 (hl _).2
    · rw [if_neg hj]
      exact ⟨Int.le_refl _, (hl j).2⟩
/-- By how much counts rose, added again. -/
theorem sum_diff {a b : List Int} (ha : a.length = 8) (hb : b.length = 8) (h : ∀ j, 0 ≤ a.getD j 0 ∧ a.getD j 0 ≤ b.getD j 0 ∧ b.getD j 0 ≤ 1152921504606846976) : csumF [a, cdiffF a b] = b := by
  show plusF (plusF (List.replicate 8 0) a) (cdiffF a b) = b
  refine list_ext (n := 8) restF_len hb fun j hj => ?_
  unfold plusF
  rw [restF_get hj, restF_get hj]
  obtain ⟨h1, h2, h3⟩ := h j
  have hz : (List.replicate 8 (0 : Int)).getD j 0 = 0 := by rw [List.getD_eq_getElem?_getD, List.getElem?_replicate, if_pos hj]; rfl
  rw [hz]
  have e1 : satF 0 (a.getD j 0) = a.getD j 0 := by
    by_cases h4 : a.getD j 0 ≤ 0
    · rw [satF_id (.inl h4)]; omega
    · rw [satF_go (by omega) (by omega) (by omega)]; omega
  rw [e1]
  have e2 : (cdiffF a b).getD j 0 = b.getD j 0 - a.getD j 0 := by
    unfold cdiffF
    rw [restF_get hj, hz]
    by_cases h4 : b.getD j 0 > a.getD j 0
    · have : difB a b j = true := by
        unfold difB
        have e1 : decide (a.getD j 0 ≥ 0) = true := decide_eq_true h1
        have e2 : decide (b.getD j 0 > a.getD j 0) = true := decide_eq_true h4
        rw [e1, e2]; rfl
      rw [this]; rfl
    · have : difB a b j = false := by
        unfold difB
        have e2 : decide (b.getD j 0 > a.getD j 0) = false := decide_eq_false h4
        rw [e2]
        cases decide (a.getD j 0 ≥ 0) <;> rfl
      rw [this]
      simp only [cond_false]
      omega
  rw [e2]
  by_cases h4 : b.getD j 0 - a.getD j 0 ≤ 0
  · rw [satF_id (.inl h4)]; omega
  · rw [satF_go (by omega) h1 (by omega)]; omega
theorem or_false' {a b : Bool} (h : (bif a then true else b) = false) : a = false ∧ b = false := by
  cases a <;> simp_all
theorem or_true' {a b : Bool} (h : (bif a then true else b) = true) : a = true ∨ b = true := by
  cases a <;> simp_all
theorem sat_more {v n : Int} (h : (bif bif decide (n ≤ 0) then true else decide (v < 0) then true else decide (v > (1152921504606846976 : Int))) = false) :
    IntKind.wrap IntKind.i64 (v + if IntKind.wrap IntKind.i64 ((1152921504606846976 : Int) - v) < n then IntKind.wrap IntKind.i64 ((1152921504606846976 : Int) - v) else n) = satF v n := by
  obtain ⟨h1, h2⟩ := or_false' h
  obtain ⟨h3, h4⟩ := sat_pos h1
  have h5 : ¬ v > 1152921504606846976 := of_decide_eq_false h2
  rw [satF_go h3 h4 (by omega), show IntKind.wrap IntKind.i64 ((1152921504606846976 : Int) - v) = 1152921504606846976 - v from i64_id (by omega) (by omega)]
  have e2 : (if 1152921504606846976 - v < n then 1152921504606846976 - v else n) = min n (1152921504606846976 - v) := by
    by_cases hh : 1152921504606846976 - v < n
    · rw [if_pos hh]; omega
    · rw [if_neg hh]; omega
  rw [e2, i64_id (by omega) (by omega)]
theorem sat_full {v n : Int} (hv : v ≤ 9223372036854775807) (h : (bif decide (n ≤ 0) then true else decide (v < 0)) = false) (h4 : (bif decide (v ≥ (1152921504606846976 : Int)) then true else decide (n ≥ IntKind.wrap IntKind.i64 ((1152921504606846976 : Int) - v))) = true) :
    (if v < (1152921504606846976 : Int) then (1152921504606846976 : Int) else v) = satF v n := by
  obtain ⟨h3, h5⟩ := sat_pos h
  rw [show IntKind.wrap IntKind.i64 ((1152921504606846976 : Int) - v) = 1152921504606846976 - v from i64_id (by omega) (by omega)] at h4
  rcases or_true' h4 with h6 | h6
  · have h6' := of_decide_eq_true h6
    rw [if_neg (by omega)]
    by_cases h7 : v = 1152921504606846976
    · rw [satF_go h3 h5 (by omega)]; omega
    · rw [satF_id (.inr (.inr (by omega)))]
  · have h6' := of_decide_eq_true h6
    by_cases h7 : v < 1152921504606846976
    · rw [if_pos h7, satF_go h3 h5 (by omega)]; omega
    · rw [if_neg h7]
      by_cases h8 : v = 1152921504606846976
      · rw [satF_go h3 h5 (by omega)]; omega
      · rw [satF_id (.inr (.inr (by omega)))]
theorem sat_room {v n : Int} (hv : v ≤ 9223372036854775807) (h : (bif decide (n ≤ 0) then true else decide (v < 0)) = false) (h4 : (bif decide (v ≥ (1152921504606846976 : Int)) then true else decide (n ≥ IntKind.wrap IntKind.i64 ((1152921504606846976 : Int) - v))) = false) :
    IntKind.wrap IntKind.i64 (v + n) = satF v n := by
  obtain ⟨h3, h5⟩ := sat_pos h
  rw [show IntKind.wrap IntKind.i64 ((1152921504606846976 : Int) - v) = 1152921504606846976 - v from i64_id (by omega) (by omega)] at h4
  obtain ⟨h6, h7⟩ := or_false' h4
  have h6' := of_decide_eq_false h6
  have h7' := of_decide_eq_false h7
  rw [satF_go h3 h5 (by omega), i64_id (by omega) (by omega)]
  omega
end Go.Ev
/- Trees of destinations, in plain Lean. -/
set_option linter.unusedVariables false
set_option linter.unusedSimpArgs false
namespace Go.Ev
abbrev gEnt : GTy := .prod (.int .u32) (.int .i64)
abbrev gTree : GTy := .arr 16 gEnt
abbrev DEnt := Int × Int
def farE : DEnt := ((4294967295 : Int), (-1 : Int))
def farT : List DEnt := List.replicate 16 farE
def entAt (t : List DEnt) (i : Nat) : DEnt := t.getD i ((0 : Int), (0 : Int))
def newT (r : Int) : List DEnt := bif rightF r then farT.set r.toNat ((0 : Int), (entAt farT r.toNat).2) else farT
def getT (t : List DEnt) (j : Int) : DEnt := bif !rightF j then farE else entAt t j.toNat
def putT (t : List DEnt) (j : Int) (e : DEnt) : List DEnt := bif rightF j then t.set j.toNat e else t
def dupB (t : List DEnt) : Nat → Int → Bool
  | 0, _ => false
  | k + 1, r => bif (entAt t (15 - k)).1 != (0 : Int) then dupB t k r else bif decide (r ≥ (0 : Int)) then true else dupB t k (15 - k : Nat)
def dupR (t : List DEnt) : Nat → Int → Int
  | 0, r => r
  | k + 1, r => bif (entAt t (15 - k)).1 != (0 : Int) then dupR t k r else bif decide (r ≥ (0 : Int)) then r else dupR t k (15 - k : Nat)
def dupI (t : List DEnt) : Nat → Int → Int
  | 0, r => r
  | k + 1, r => bif (entAt t (15 - k)).1 != (0 : Int) then dupI t k r else bif decide (r ≥ (0 : Int)) then (15 - k : Nat) else dupI t k (15 - k : Nat)
def lastR (t : List DEnt) : Nat → Int → Int
  | 0, r => r
  | k + 1, r => bif (entAt t (15 - k)).1 != (0 : Int) then lastR t k r else lastR t k (15 - k : Nat)
def rootT (t : List DEnt) : Int := bif dupB t 16 (-1) then -1 else lastR t 16 (-1)
theorem root_t {t : List DEnt} (h : dupB t 16 (-1) = true) : rootT t = -1 := by unfold rootT; rw [h]; rfl
theorem root_f {t : List DEnt} (h : dupB t 16 (-1) = false) : rootT t = lastR t 16 (-1) := by unfold rootT; rw [h]; rfl
def reachK (t : List DEnt) : Nat → Int → Int
  | 0, s => s
  | k + 1, s => reachK t k (bif (entAt t (15 - k)).1 != (4294967295 : Int) then withF s (15 - k : Nat) else s)
def reachT (t : List DEnt) : Int := reachK t 16 0
theorem ent_ext {a b : List DEnt} (ha : a.length = 16) (hb : b.length = 16) (h : ∀ j, j < 16 → entAt a j = entAt b j) : a = b := by
  refine List.ext_getElem (by omega) fun j h1 h2 => ?_
  have := h j (by omega)
  simpa [entAt, List.getD, h1, h2] using this
theorem ent_far {j : Nat} (h : j < 16) : entAt farT j = farE := by
  unfold entAt farT
  rw [List.getD_eq_getElem?_getD, List.getElem?_replicate, if_pos h]; rfl
theorem ent_set {t : List DEnt} {i j : Nat} {e : DEnt} (h : i < t.length) : entAt (t.set i e) j = if i = j then e else entAt t j := by
  unfold entAt
  simp only [List.getD, List.getElem?_set]
  by_cases hij : i = j
  · subst hij; simp [h]
  · simp [hij]
theorem step_i {i : Int} (h0 : 0 ≤ i) (h1 : i < 16) : (16 - i).toNat = (16 - (i + 1)).toNat + 1 ∧ 15 - (16 - (i + 1)).toNat = i.toNat := by omega
/-- One destination's text. -/
def entB (t : List DEnt) (j : Int) : List UInt8 := ((textN (withF 0 j) ++ natT (entAt t j.toNat).1.toNat) ++ textN (withF 0 (entAt t j.toNat).2)) ++ [32]
def treeB (t : List DEnt) : List UInt8 := (elemsF (reachT t) 16).flatMap (entB t)
theorem entB_len (t : List DEnt) (j : Int) : (entB t j).length ≤ 60 := by
  have h1 := textN_len (withF 0 j)
  have h2 := textN_len (withF 0 (entAt t j.toNat).2)
  have h3 := digN_len 20 (entAt t j.toNat).1.toNat
  unfold entB natT
  simp only [List.length_append, List.length_cons, List.length_nil]
  omega
def entsB (t : List DEnt) (l : List Int) : List UInt8 := l.flatMap (entB t)
theorem ents_cons (t : List DEnt) (j : Int) (l : List Int) : entsB t (j :: l) = entB t j ++ entsB t l := rfl
def tOK (t : List DEnt) : Prop := ∀ j : Nat, 0 ≤ (entAt t j).1 ∧ (entAt t j).1 ≤ 4294967295
theorem tOK_wt {t : List DEnt} (h : wt gTree t) : tOK t := fun j => by
  unfold entAt
  by_cases hl : j < t.length
  · have h2 := h.2 (t[j]) (List.getElem_mem hl)
    have h3 : IntKind.u32.has (t[j]).1 := h2.1
    rw [has_u32] at h3
    simpa [List.getD, hl] using h3
  · have : t.getD j ((0 : Int), (0 : Int)) = (0, 0) := by simp [List.getD, Nat.not_lt.1 hl]
    rw [this]; exact ⟨Int.le_refl _, by decide⟩
theorem udig_one {x : Int} (h0 : 0 ≤ x) (h1 : x < 10) : bytesToStr [IntKind.wrap IntKind.u8 (IntKind.wrap IntKind.u32 ((48 : Int) + x))] = natT x.toNat := by
  have h := dig_one h0 h1
  rw [show IntKind.wrap IntKind.i64 ((48 : Int) + x) = IntKind.wrap IntKind.u32 ((48 : Int) + x) by rw [i64_id (by omega) (by omega), u32_id (by omega) (by omega)]] at h
  rw [h]
  unfold digF
  rw [decide_eq_false (by omega)]
  rfl
theorem udig_more {x : Int} (h0 : ¬ x < 10) (h1 : x ≤ 4294967295) : natT (IntKind.wrap IntKind.u32 (Int.tdiv x (10 : Int))).toNat ++ bytesToStr [IntKind.wrap IntKind.u8 (IntKind.wrap IntKind.u32 ((48 : Int) + Int.tmod x (10 : Int)))] = natT x.toNat := by
  have h := dig_more h0 (by omega)
  have e1 : Int.tdiv x 10 = x / 10 := Int.tdiv_eq_ediv_of_nonneg (by omega)
  have e2 : Int.tmod x 10 = x % 10 := Int.tmod_eq_emod_of_nonneg (by omega)
  rw [e1, e2] at h ⊢
  rw [i64_id (by omega) (by omega), i64_id (by omega) (by omega)] at h
  rw [u32_id (by omega) (by omega), u32_id (by omega) (by omega)]
  unfold digF at h
  rw [decide_eq_false (by omega), decide_eq_false (by omega)] at h
  exact h
theorem tree_none : treeB farT = [] := by kernel_rfl
theorem new_none : newT (-1) = farT := by kernel_rfl
theorem wt_farT : wt gTree farT := by
  refine ⟨by kernel_rfl, fun x hx => ?_⟩
  have : x = farE := List.eq_of_mem_replicate hx
  rw [this]
  exact ⟨(has_u32 _).2 ⟨by decide, by decide⟩, (has_i64 _).2 ⟨by decide, by decide⟩⟩
theorem has_nat {m n : Nat} (hn : n < 16) : hasF (m : Int) (n : Int) = m.testBit n := by
  unfold hasF
  rw [right_nat hn, cond_true, bit_at hn, Nat.testBit_eq_decide_div_mod_eq]
  have : ((m : Int) / (2 ^ n : Nat)) % 2 = ((m / 2 ^ n % 2 : Nat) : Int) := by rw [Int.natCast_emod, Int.natCast_ediv]; rfl
  rw [this, Bool.eq_iff_iff]
  simp only [beq_iff_eq, decide_eq_true_eq]
  omega
theorem with_nat {m j : Nat} (hm : m < 65536) (hj : j < 16) : withF (m : Int) (j : Int) = ((m ||| 2 ^ j : Nat) : Int) := by
  have hp : 2 ^ j ≤ 2 ^ 15 := Nat.pow_le_pow_right (by omega) (by omega)
  have h15 : (2 : Nat) ^ 15 = 32768 := by decide
  have ho : m ||| 2 ^ j < 2 ^ 16 := Nat.or_lt_two_pow (by omega) (by omega)
  have h16 : (2 : Nat) ^ 16 = 65536 := by decide
  unfold withF
  rw [right_nat hj]
  simp only [Bool.not_true, cond_false]
  have e : min (j : Int).toNat 64 = j := by omega
  have e2 : (1 : Int) * 2 ^ j = ((2 ^ j : Nat) : Int) := by simp
  rw [e, e2]
  generalize 2 ^ j = p at hp ho ⊢
  rw [i64_id (by omega) (by omega)]
  exact or_nat (by omega) (by show (m : Int) < 2 ^ 64; omega) (by omega) (by show (p : Int) < 2 ^ 64; omega) ((has_i64 _).2 (by simp only [Int.toNat_natCast]; omega))
theorem reachK_nat (t : List DEnt) : ∀ k, k ≤ 16 → ∀ m : Nat, m < 65536 → ∃ m' : Nat, m' < 65536 ∧ reachK t k (m : Int) = (m' : Int) ∧ ∀ n, n < 16 → m'.testBit n = (m.testBit n || (decide (16 - k ≤ n) && ((entAt t n).1 != (4294967295 : Int))))
  | 0, _, m, hm => ⟨m, hm, rfl, fun n hn => by rw [decide_eq_false (by omega)]; simp⟩
  | k + 1, hk, m, hm => by
    have hw := with_nat (j := 15 - k) hm (by omega)
    have ho : m ||| 2 ^ (15 - k) < 2 ^ 16 := Nat.or_lt_two_pow (by omega) (Nat.lt_of_le_of_lt (Nat.pow_le_pow_right (by omega) (show 15 - k ≤ 15 by omega)) (by decide))
    have h16 : (2 : Nat) ^ 16 = 65536 := by decide
    cases hb : (entAt t (15 - k)).1 != (4294967295 : Int) with
    | true =>
      obtain ⟨m', h1, h2, h3⟩ := reachK_nat t k (by omega) (m ||| 2 ^ (15 - k)) (by omega)
      refine ⟨m', h1, ?_, fun n hn => ?_⟩
      · show reachK t k (bif (entAt t (15 - k)).1 != (4294967295 : Int) then withF (m : Int) ((15 - k : Nat) : Int) else (m : Int)) = _
        rw [hb, cond_true, hw, h2]
      · rw [h3 n hn, Nat.testBit_or, Nat.testBit_two_pow]
        by_cases e : 15 - k = n
        · rw [decide_eq_true e, decide_eq_true (show 16 - (k + 1) ≤ n by omega), ← e, hb]; simp
        · rw [decide_eq_false e]
          by_cases e2 : 16 - k ≤ n
          · rw [decide_eq_true e2, decide_eq_true (show 16 - (k + 1) ≤ n by omega)]; simp
          · rw [decide_eq_false e2, decide_eq_false (show ¬ 16 - (k + 1) ≤ n by omega)]; simp
    | false =>
      obtain ⟨m', h1, h2, h3⟩ := reachK_nat t k (by omega) m hm
      refine ⟨m', h1, ?_, fun n hn => ?_⟩
      · show reachK t k (bif (entAt t (15 - k)).1 != (4294967295 : Int) then withF (m : Int) ((15 - k : Nat) : Int) else (m : Int)) = _
        rw [hb, cond_false, h2]
      · rw [h3 n hn]
        by_cases e : 15 - k = n
        · rw [← e, hb]; simp
        · by_cases e2 : 16 - k ≤ n
          · rw [decide_eq_true e2, decide_eq_true (show 16 - (k + 1) ≤ n by omega)]
          · rw [decide_eq_false e2, decide_eq_false (show ¬ 16 - (k + 1) ≤ n by omega)]
theorem has_reach (t : List DEnt) {n : Int} (h0 : 0 ≤ n) (h1 : n < 16) : hasF (reachT t) n = ((entAt t n.toNat).1 != (4294967295 : Int)) := by
  obtain ⟨m', _, h2, h3⟩ := reachK_nat t 16 (by omega) 0 (by omega)
  obtain ⟨k, rfl⟩ := Int.eq_ofNat_of_zero_le h0
  have hk : k < 16 := by omega
  show hasF (reachK t 16 0) (k : Int) = _
  have h2' : reachK t 16 0 = (m' : Int) := h2
  rw [h2', has_nat hk, h3 k hk]
  simp
theorem put_get {t : List DEnt} {j i : Int} {e : DEnt} (ht : t.length = 16) (h0 : 0 ≤ j) (h1 : j < 16) (g0 : 0 ≤ i) (g1 : i < 16) : entAt (putT t j e) i.toNat = bif i == j then e else entAt t i.toNat := by
  unfold putT
  rw [rightF_iff.2 ⟨h0, h1⟩, cond_true, ent_set (by omega)]
  by_cases h : j = i
  · subst h; simp
  · rw [if_neg (by omega)]
    have : (i == j) = false := by simpa using fun h2 => h h2.symm
    rw [this]; rfl
theorem get_at {t : List DEnt} {i : Int} (g0 : 0 ≤ i) (g1 : i < 16) : getT t i = entAt t i.toNat := by
  unfold getT
  rw [rightF_iff.2 ⟨g0, g1⟩]; rfl
theorem new_root {j : Int} (h0 : 0 ≤ j) (h1 : j < 16) : rootT (newT j) = j ∧ reachT (newT j) = IntKind.i64.wrap (1 * 2 ^ min (IntKind.u64.wrap j).toNat 64) := by
  have hk : j = 0 ∨ j = 1 ∨ j = 2 ∨ j = 3 ∨ j = 4 ∨ j = 5 ∨ j = 6 ∨ j = 7 ∨ j = 8 ∨ j = 9 ∨ j = 10 ∨ j = 11 ∨ j = 12 ∨ j = 13 ∨ j = 14 ∨ j = 15 := by omega
  rcases hk with rfl | rfl | rfl | rfl | rfl | rfl | rfl | rfl | rfl | rfl | rfl | rfl | rfl | rfl | rfl | rfl <;> exact ⟨by kernel_rfl, by kernel_rfl⟩
theorem mod_in (j : Int) : 0 ≤ IntKind.i64.wrap (Int.tmod (IntKind.u64.wrap j) 16) ∧ IntKind.i64.wrap (Int.tmod (IntKind.u64.wrap j) 16) < 16 := by
  have h := wrap_has .u64 j
  rw [has_u64] at h
  rw [Int.tmod_eq_emod_of_nonneg h.1]
  have g1 := Int.emod_nonneg (IntKind.wrap .u64 j) (show (16 : Int) ≠ 0 by decide)
  have g2 := Int.emod_lt_of_pos (IntKind.wrap .u64 j) (show (0 : Int) < 16 by decide)
  rw [i64_id (by omega) (by omega)]
  exact ⟨g1, g2⟩
end Go.Ev
/- Links, in plain Lean. -/
set_option linter.unusedVariables false
set_option linter.unusedSimpArgs false
namespace Go.Ev
def withoutF (set n : Int) : Int := bif !rightF n then set else bitsOp .andNot .i64 set (IntKind.i64.wrap (1 * 2 ^ min n.toNat 64))
def cutF (c : DCosts) (n : Int) : DCosts := bif !rightF n then c else (withoutF c.1 n, c.2.set n.toNat 0)
def ofF (c : DCosts) (n : Int) : Int := bif !hasF c.1 n then 4294967295 else c.2.getD n.toNat 0
theorem has_in {s n : Int} (h : hasF s n = true) : 0 ≤ n ∧ n < 16 := by
  unfold hasF at h
  cases hr : rightF n with
  | true => exact rightF_iff.1 hr
  | false => rw [hr] at h; cases h
theorem set_bad {n w : Int} : (bif bif !rightF n then true else decide (w < (1 : Int)) then true else decide (w > (65536 : Int))) = (bif !rightF n then true else !rcostF w) := by
  unfold rcostF
  cases rightF n with
  | false => rfl
  | true =>
    by_cases h1 : w < 1
    · rw [decide_eq_true h1, decide_eq_false (show ¬ w ≥ 1 by omega)]; rfl
    · rw [decide_eq_false h1, decide_eq_true (show w ≥ 1 by omega)]
      by_cases h2 : w > 65536
      · rw [decide_eq_true h2, decide_eq_false (show ¬ w ≤ 65536 by omega)]; rfl
      · rw [decide_eq_false h2, decide_eq_true (show w ≤ 65536 by omega)]; rfl
/-- One link's text. -/
def lnkB (c : DCosts) (n : Int) : List UInt8 := (textN (withF 0 n) ++ natT (c.2.getD n.toNat 0).toNat) ++ [32]
def lnksB (c : DCosts) (l : List Int) : List UInt8 := l.flatMap (lnkB c)
def linksT (c : DCosts) : List UInt8 := lnksB c (elemsF c.1 16)
theorem lnks_cons (c : DCosts) (j : Int) (l : List Int) : lnksB c (j :: l) = lnkB c j ++ lnksB c l := rfl
theorem lnkB_len (c : DCosts) (n : Int) : (lnkB c n).length ≤ 40 := by
  have h1 := textN_len (withF 0 n)
  have h3 := digN_len 20 (c.2.getD n.toNat 0).toNat
  unfold lnkB natT
  simp only [List.length_append, List.length_cons, List.length_nil]
  omega
def cOK (c : DCosts) : Prop := c.2.length = 16 ∧ ∀ j : Nat, 0 ≤ c.2.getD j 0 ∧ c.2.getD j 0 ≤ 4294967295
theorem cOK_wt {c : DCosts} (h : wt gCosts c) : cOK c := ⟨h.2.1, fun j => by
  by_cases hl : j < c.2.length
  · have h3 : IntKind.u32.has (c.2[j]) := h.2.2 (c.2[j]) (List.getElem_mem hl)
    rw [has_u32] at h3
    simpa [List.getD, hl] using h3
  · have : c.2.getD j (0 : Int) = 0 := by simp [List.getD, Nat.not_lt.1 hl]
    rw [this]; exact ⟨Int.le_refl _, by decide⟩⟩
theorem without_nat {m j : Nat} (hm : m < 65536) (hj : j < 16) : ∃ k : Nat, k < 65536 ∧ withoutF (m : Int) (j : Int) = (k : Int) ∧ ∀ n, n < 16 → k.testBit n = (m.testBit n && !(decide (j = n))) := by
  have hp : 2 ^ j ≤ 2 ^ 15 := Nat.pow_le_pow_right (by omega) (by omega)
  have h15 : (2 : Nat) ^ 15 = 32768 := by decide
  have e : min (j : Int).toNat 64 = j := by omega
  have e2 : (1 : Int) * 2 ^ j = ((2 ^ j : Nat) : Int) := by simp
  obtain ⟨v, hv⟩ : ∃ v, v = (BitVec.ofInt 64 (m : Int) &&& ~~~ BitVec.ofInt 64 ((2 ^ j : Nat) : Int)) := ⟨_, rfl⟩
  have hmN : (BitVec.ofInt 64 (m : Int)).toNat = m := by
    rw [ofInt_toNat (by omega) (by omega)]
    exact Int.toNat_natCast m
  have hle : v.toNat ≤ m := by
    rw [hv, BitVec.toNat_and, hmN]
    exact Nat.and_le_left
  refine ⟨v.toNat, by omega, ?_, fun n hn => ?_⟩
  · unfold withoutF
    rw [right_nat hj]
    simp only [Bool.not_true, cond_false]
    rw [e, e2]
    have hw : IntKind.i64.wrap ((2 ^ j : Nat) : Int) = ((2 ^ j : Nat) : Int) := by
      generalize 2 ^ j = p at hp ⊢
      exact i64_id (by omega) (by omega)
    rw [hw]
    show IntKind.i64.wrap ((BitVec.ofInt 64 (m : Int) &&& ~~~ BitVec.ofInt 64 ((2 ^ j : Nat) : Int)).toNat : Int) = _
    rw [← hv]
    exact i64_id (by omega) (by omega)
  · have h1 : v.toNat.testBit n = v.getLsbD n := rfl
    have h2 : m.testBit n = (BitVec.ofInt 64 (m : Int)).getLsbD n := by
      show _ = (BitVec.ofInt 64 (m : Int)).toNat.testBit n
      rw [hmN]
    have h3 : (BitVec.ofInt 64 ((2 ^ j : Nat) : Int)).getLsbD n = decide (j = n) := by
      show (BitVec.ofInt 64 ((2 ^ j : Nat) : Int)).toNat.testBit n = _
      have : (BitVec.ofInt 64 ((2 ^ j : Nat) : Int)).toNat = 2 ^ j := by
        have h64 : ((2 ^ j : Nat) : Int) < 2 ^ 64 := by
          generalize 2 ^ j = p at hp ⊢
          omega
        rw [ofInt_toNat (Int.natCast_nonneg _) h64]
        exact Int.toNat_natCast _
      rw [this, Nat.testBit_two_pow]
    rw [h1, h2, hv, BitVec.getLsbD_and, BitVec.getLsbD_not, h3, decide_eq_true (show n < 64 by omega), Bool.true_and]
theorem sound_iff {c : DCosts} : soundF c = true ↔ ∃ m : Nat, m < 65536 ∧ c.1 = (m : Int) ∧ ∀ n : Nat, n < 16 → (bif m.testBit n then rcostF (c.2.getD n 0) else c.2.getD n 0 == 0) = true := by
  have hok : ∀ m n : Nat, n < 16 → c.1 = (m : Int) → okAt c (n : Int) = (bif m.testBit n then rcostF (c.2.getD n 0) else c.2.getD n 0 == 0) := fun m n hn hm => by
    unfold okAt costAt
    rw [hm, has_nat hn]
    rfl
  constructor
  · intro h
    unfold soundF at h
    by_cases h0 : c.1 < 0
    · rw [decide_eq_true h0] at h; cases h
    · by_cases h1 : c.1 ≥ 65536
      · rw [decide_eq_false h0, decide_eq_true h1] at h; cases h
      · rw [decide_eq_false h0, decide_eq_false h1] at h
        have h2 : allOk c 16 = true := h
        obtain ⟨m, hm⟩ := Int.eq_ofNat_of_zero_le (show 0 ≤ c.1 by omega)
        refine ⟨m, by omega, hm, fun n hn => ?_⟩
        rw [← hok m n hn hm]
        exact (allOk_iff (Nat.le_refl _)).1 h2 n (by omega) (by omega)
  · rintro ⟨m, hm, hc, hn⟩
    unfold soundF
    rw [decide_eq_false (show ¬ c.1 < 0 by omega), decide_eq_false (show ¬ c.1 ≥ 65536 by omega)]
    show allOk c 16 = true
    refine (allOk_iff (Nat.le_refl _)).2 fun n h0 h1 => ?_
    obtain ⟨k, rfl⟩ := Int.eq_ofNat_of_zero_le (show 0 ≤ n by omega)
    rw [hok m k (by omega) hc]
    exact hn k (by omega)
theorem of_at {c : DCosts} {m n : Nat} (hn : n < 16) (hm : c.1 = (m : Int)) : ofF c (n : Int) = bif !(m.testBit n) then 4294967295 else c.2.getD n 0 := by
  unfold ofF
  rw [hm, has_nat hn]
  rfl
theorem of_off {c : DCosts} {n : Int} (h : rightF n = false) : ofF c n = 4294967295 := by
  unfold ofF hasF
  rw [h]; rfl
theorem sound_cut {c : DCosts} {n : Int} (hl : c.2.length = 16) (h : soundF c = true) : soundF (cutF c n) = true ∧ (cutF c n).2.length = 16 ∧ ofF (cutF c n) n = 4294967295 := by
  cases hr : rightF n with
  | false =>
    have e : cutF c n = c := by unfold cutF; rw [hr]; rfl
    rw [e]
    exact ⟨h, hl, of_off hr⟩
  | true =>
    obtain ⟨j, rfl⟩ := Int.eq_ofNat_of_zero_le (rightF_iff.1 hr).1
    have hj : j < 16 := by have := (rightF_iff.1 hr).2; omega
    obtain ⟨m, hm, hc, hok⟩ := sound_iff.1 h
    obtain ⟨k, hk, hw, hb⟩ := without_nat hm hj
    have e : cutF c (j : Int) = ((k : Int), c.2.set j 0) := by
      unfold cutF
      rw [hr, hc, hw]; rfl
    rw [e]
    refine ⟨sound_iff.2 ⟨k, hk, rfl, fun n hn => ?_⟩, by rw [List.length_set]; exact hl, ?_⟩
    · rw [hb n hn]
      show (bif m.testBit n && !decide (j = n) then rcostF ((c.2.set j 0).getD n 0) else (c.2.set j 0).getD n 0 == 0) = true
      rw [getD_set (by omega)]
      by_cases hjn : j = n
      · rw [if_pos hjn, decide_eq_true hjn]; simp
      · rw [if_neg hjn, decide_eq_false hjn]; simpa using hok n hn
    · rw [of_at (m := k) hj rfl, hb j hj]; simp
theorem set_err {c : DCosts} {n w : Int} (h : ((csetF c n w).2 == 0) = false) : (csetF c n w).1 = c := by
  unfold csetF at h ⊢
  cases hb : (bif !rightF n then true else !rcostF w) with
  | true => rfl
  | false => rw [hb] at h; cases h
theorem sound_set {c : DCosts} {n w : Int} (hl : c.2.length = 16) (h : soundF c = true) : soundF (csetF c n w).1 = true ∧ (csetF c n w).1.2.length = 16 ∧ (((csetF c n w).2 == 0) = true → ofF (csetF c n w).1 n = w) := by
  cases hb : (bif !rightF n then true else !rcostF w) with
  | true =>
    have e : csetF c n w = (c, 1) := by unfold csetF; rw [hb]; rfl
    rw [e]
    exact ⟨h, hl, fun h => by cases h⟩
  | false =>
    have hr : rightF n = true := by cases hr : rightF n with
      | true => rfl
      | false => rw [hr] at hb; cases hb
    have hw : rcostF w = true := by rw [hr] at hb; simpa using hb
    obtain ⟨j, rfl⟩ := Int.eq_ofNat_of_zero_le (rightF_iff.1 hr).1
    have hj : j < 16 := by have := (rightF_iff.1 hr).2; omega
    obtain ⟨m, hm, hc, hok⟩ := sound_iff.1 h
    have hwn := with_nat hm hj
    have ho : m ||| 2 ^ j < 2 ^ 16 := Nat.or_lt_two_pow (by omega) (Nat.lt_of_le_of_lt (Nat.pow_le_pow_right (by omega) (show j ≤ 15 by omega)) (by decide))
    have h16 : (2 : Nat) ^ 16 = 65536 := by decide
    have e : csetF c (j : Int) w = ((((m ||| 2 ^ j : Nat) : Int), c.2.set j w), 0) := by
      unfold csetF
      rw [hb, hc, hwn]; rfl
    rw [e]
    have hbit : ∀ n, (m ||| 2 ^ j).testBit n = (m.testBit n || decide (j = n)) := fun n => by rw [Nat.testBit_or, Nat.testBit_two_pow]
    refine ⟨sound_iff.2 ⟨_, by omega, rfl, fun n hn => ?_⟩, by show (c.2.set j w).length = 16; rw [List.length_set]; exact hl, fun _ => ?_⟩
    · rw [hbit]
      show (bif m.testBit n || decide (j = n) then rcostF ((c.2.set j w).getD n 0) else (c.2.set j w).getD n 0 == 0) = true
      rw [getD_set (by omega)]
      by_cases hjn : j = n
      · rw [if_pos hjn, decide_eq_true hjn]; simpa using hw
      · rw [if_neg hjn, decide_eq_false hjn]; simpa using hok n hn
    · rw [of_at (m := m ||| 2 ^ j) hj rfl, hbit, decide_eq_true rfl]
      show (bif !(m.testBit j || true) then 4294967295 else (c.2.set j w).getD j 0) = w
      rw [getD_set (by omega), if_pos rfl]
      simp
end Go.Ev
/- Links set, cut and asked. -/
set_option linter.unusedVariables false
set_option linter.unusedSimpArgs false
namespace Go.Ev.D
open Go.Proofs
def withoutC : Ctr := { args := [.int .i64, .int .i64], res := [.int .i64], pre := none, fn := fun (x : Int × Int) => withoutF x.1 x.2 }
def withoutG : List (Nat × Ctr) := [(72, rightC)]
theorem without_tree : (fun x : Int × Int => evFn (mkC tys withoutG []) (fnOf Tryd.prog 109) (resL withoutC.args x) withoutC.res) =
  (fun x =>
    Tree.br (!rightF x.2) (Tree.leaf x.1)
      (Tree.need ((0 : Int) ≤ x.2) (Tree.leaf (bitsOp BinOp.andNot IntKind.i64 x.1 (IntKind.wrap IntKind.i64 ((1 : Int) * (2 : Int) ^ min (Int.toNat x.2) (64 : Nat))))))) := by kernel_rfl
theorem without_ok : CtrOK Tryd.prog 109 withoutC :=
  fun_ok (G := withoutG) (Λ := []) tysOK (ctrs_cons right_ok ctrs_nil) mixed (by kernel_rfl) (by kernel_rfl) (by kernel_rfl) (by kernel_rfl) lp_nil fun (x : Int × Int) hw _ => by
    rw [congrFun without_tree x]
    exact holds_val (d := withoutC.fn x) (by kernel_rfl) (by simp [Tree.safe]; intro h; exact (rightF_iff.1 h).1)
def rwithoutC : Ctr := withoutC
def rwithoutG : List (Nat × Ctr) := [(99, rrightC)]
theorem rwithout_tree : (fun x : Int × Int => evFn (mkC tys rwithoutG []) (fnOf Tryd.prog 110) (resL rwithoutC.args x) rwithoutC.res) =
  (fun x =>
    Tree.br (rightF x.2)
      (Tree.need ((0 : Int) ≤ IntKind.wrap IntKind.u64 x.2)
        (Tree.leaf (bitsOp BinOp.andNot IntKind.i64 x.1 (IntKind.wrap IntKind.i64 ((1 : Int) * (2 : Int) ^ min (Int.toNat (IntKind.wrap IntKind.u64 x.2)) (64 : Nat))))))
      (Tree.leaf x.1)) := by kernel_rfl
theorem rwithout_ok : CtrOK Tryd.prog 110 rwithoutC :=
  fun_ok (G := rwithoutG) (Λ := []) tysOK (ctrs_cons rright_ok ctrs_nil) mixed (by kernel_rfl) (by kernel_rfl) (by kernel_rfl) (by kernel_rfl) lp_nil fun (x : Int × Int) hw _ => by
    rw [congrFun rwithout_tree x]
    have e : rwithoutC.fn x = withoutF x.1 x.2 := rfl
    rw [e]
    simp only [Tree.holds, withoutF]
    refine ⟨fun h => ?_, fun h => by rw [h]; rfl⟩
    have h2 := rightF_iff.1 h
    have e : IntKind.u64.wrap x.2 = x.2 := u64_id h2.1 (by omega)
    rw [e, h]
    exact ⟨h2.1, rfl⟩
def rcostC : Ctr := { args := [.int .u32], res := [.bool], pre := none, fn := fun (x : Int) => rcostF x }
def rcostG : List (Nat × Ctr) := []
theorem rcost_tree : (fun x : Int => evFn (mkC tys rcostG []) (fnOf Tryd.prog 108) (resL rcostC.args x) rcostC.res) =
  (fun x => Tree.leaf (bif decide (x ≥ (1 : Int)) then decide (x ≤ (65536 : Int)) else false)) := by kernel_rfl
theorem rcost_ok : CtrOK Tryd.prog 108 rcostC :=
  fun_ok (G := rcostG) (Λ := []) tysOK ctrs_nil mixed (by kernel_rfl) (by kernel_rfl) (by kernel_rfl) (by kernel_rfl) lp_nil fun (x : Int) hw _ => by
    rw [congrFun rcost_tree x]
    exact holds_val (d := rcostC.fn x) (by kernel_rfl) (by simp [Tree.safe])
def csetC : Ctr := { args := [gCosts, .int .i64, .int .u32], res := [gCosts, .int .i64], pre := none, fn := fun (x : DCosts × Int × Int) => csetF x.1 x.2.1 x.2.2 }
def csetG : List (Nat × Ctr) := [(72, rightC), (108, rcostC), (100, withC)]
theorem cset_tree : (fun x : DCosts × Int × Int => evFn (mkC tys csetG []) (fnOf Tryd.prog 42) (resL csetC.args x) csetC.res) =
  (fun x =>
    Tree.br (bif !rightF x.2.1 then true else !rcostF x.2.2) (Tree.leaf (x.1, (1 : Int)))
      (Tree.need ((0 : Int) ≤ x.2.1 ∧ x.2.1 < (16 : Int)) (Tree.leaf ((withF x.1.1 x.2.1, List.set x.1.2 (Int.toNat x.2.1) x.2.2), (0 : Int))))) := by kernel_rfl
theorem cset_ok : CtrOK Tryd.prog 42 csetC :=
  fun_ok (G := csetG) (Λ := []) tysOK (ctrs_cons right_ok (ctrs_cons rcost_ok (ctrs_cons with_ok ctrs_nil))) mixed (by kernel_rfl) (by kernel_rfl) (by kernel_rfl) (by kernel_rfl) lp_nil fun (x : DCosts × Int × Int) hw _ => by
    rw [congrFun cset_tree x]
    exact holds_val (d := csetC.fn x) (by kernel_rfl) (by simp [Tree.safe]; intro h _; exact rightF_iff.1 h)
def rcsetC : Ctr := csetC
def rcsetG : List (Nat × Ctr) := [(99, rrightC), (101, rwithC)]
theorem rcsetG_ok : CtrsOK Tryd.prog (fun f => lk f rcsetG) := (ctrs_cons rright_ok (ctrs_cons rwith_ok ctrs_nil))
theorem rcset_tree : (fun x : DCosts × Int × Int => evFn (mkC tys rcsetG []) (fnOf Tryd.prog 43) (resL rcsetC.args x) rcsetC.res) =
  (fun x =>
    Tree.br (bif bif !rightF x.2.1 then true else decide (x.2.2 < (1 : Int)) then true else decide (x.2.2 > (65536 : Int))) (Tree.leaf (x.1, (1 : Int)))
      (Tree.need ((0 : Int) ≤ x.2.1 ∧ x.2.1 < (16 : Int)) (Tree.leaf ((withF x.1.1 x.2.1, List.set x.1.2 (Int.toNat x.2.1) x.2.2), (0 : Int))))) := by kernel_rfl
theorem rcset_ok : CtrOK Tryd.prog 43 rcsetC :=
  fun_ok (G := rcsetG) (Λ := []) tysOK rcsetG_ok mixed (by kernel_rfl) (by kernel_rfl) (by kernel_rfl) (by kernel_rfl) lp_nil fun (x : DCosts × Int × Int) hw _ => by
    rw [congrFun rcset_tree x]
    have e : rcsetC.fn x = csetF x.1 x.2.1 x.2.2 := rfl
    rw [e]
    unfold csetF
    simp only [Tree.holds]
    rw [set_bad]
    refine ⟨fun h => by rw [h]; rfl, fun h => ?_⟩
    rw [h]
    refine ⟨?_, rfl⟩
    cases hr : rightF x.2.1 with
    | true => exact rightF_iff.1 hr
    | false => rw [hr] at h; cases h
def cutC : Ctr := { args := [gCosts, .int .i64], res := [gCosts], pre := none, fn := fun (x : DCosts × Int) => cutF x.1 x.2 }
def cutG : List (Nat × Ctr) := [(72, rightC), (109, withoutC)]
theorem cut_tree : (fun x : DCosts × Int => evFn (mkC tys cutG []) (fnOf Tryd.prog 46) (resL cutC.args x) cutC.res) =
  (fun x => Tree.br (!rightF x.2) (Tree.leaf x.1) (Tree.need ((0 : Int) ≤ x.2 ∧ x.2 < (16 : Int)) (Tree.leaf (withoutF x.1.1 x.2, List.set x.1.2 (Int.toNat x.2) (0 : Int))))) := by kernel_rfl
theorem cut_ok : CtrOK Tryd.prog 46 cutC :=
  fun_ok (G := cutG) (Λ := []) tysOK (ctrs_cons right_ok (ctrs_cons without_ok ctrs_nil)) mixed (by kernel_rfl) (by kernel_rfl) (by kernel_rfl) (by kernel_rfl) lp_nil fun (x : DCosts × Int) hw _ => by
    rw [congrFun cut_tree x]
    exact holds_val (d := cutC.fn x) (by kernel_rfl) (by simp [Tree.safe]; intro h; exact rightF_iff.1 h)
def rcutC : Ctr := cutC
def rcutG : List (Nat × Ctr) := [(99, rrightC), (110, rwithoutC)]
theorem rcutG_ok : CtrsOK Tryd.prog (fun f => lk f rcutG) := (ctrs_cons rright_ok (ctrs_cons rwithout_ok ctrs_nil))
theorem rcut_tree : (fun x : DCosts × Int => evFn (mkC tys rcutG []) (fnOf Tryd.prog 47) (resL rcutC.args x) rcutC.res) =
  (fun x => Tree.br (!rightF x.2) (Tree.leaf x.1) (Tree.need ((0 : Int) ≤ x.2 ∧ x.2 < (16 : Int)) (Tree.leaf (withoutF x.1.1 x.2, List.set x.1.2 (Int.toNat x.2) (0 : Int))))) := by kernel_rfl
theorem rcut_ok : CtrOK Tryd.prog 47 rcutC :=
  fun_ok (G := rcutG) (Λ := []) tysOK rcutG_ok mixed (by kernel_rfl) (by kernel_rfl) (by kernel_rfl) (by kernel_rfl) lp_nil fun (x : DCosts × Int) hw _ => by
    rw [congrFun rcut_tree x]
    exact holds_val (d := rcutC.fn x) (by kernel_rfl) (by simp [Tree.safe]; intro h; exact rightF_iff.1 h)
def ofC : Ctr := { args := [gCosts, .int .i64], res := [.int .u32], pre := none, fn := fun (x : DCosts × Int) => ofF x.1 x.2 }
def ofG : List (Nat × Ctr) := [(41, hasC)]
theorem of_tree : (fun x : DCosts × Int => evFn (mkC tys ofG []) (fnOf Tryd.prog 48) (resL ofC.args x) ofC.res) =
  (fun x => Tree.br (!hasF x.1.1 x.2) (Tree.leaf (4294967295 : Int)) (Tree.need ((0 : Int) ≤ x.2 ∧ x.2 < (16 : Int)) (Tree.leaf (List.getD x.1.2 (Int.toNat x.2) (0 : Int))))) := by kernel_rfl
theorem of_ok : CtrOK Tryd.prog 48 ofC :=
  fun_ok (G := ofG) (Λ := []) tysOK (ctrs_cons has_ok ctrs_nil) mixed (by kernel_rfl) (by kernel_rfl) (by kernel_rfl) (by kernel_rfl) lp_nil fun (x : DCosts × Int) hw _ => by
    rw [congrFun of_tree x]
    exact holds_val (d := ofC.fn x) (by kernel_rfl) (by simp [Tree.safe]; exact has_in)
def rofC : Ctr := { args := [gCosts, .int .i64], res := [.int .u32], pre := none, fn := fun (x : DCosts × Int) => ofF x.1 x.2 }
def rofG : List (Nat × Ctr) := [(111, rhasC)]
theorem rof_tree : (fun x : DCosts × Int => evFn (mkC tys rofG []) (fnOf Tryd.prog 49) (resL rofC.args x) rofC.res) =
  (fun x => Tree.br (!hasF x.1.1 x.2) (Tree.leaf (4294967295 : Int)) (Tree.need ((0 : Int) ≤ x.2 ∧ x.2 < (16 : Int)) (Tree.leaf (List.getD x.1.2 (Int.toNat x.2) (0 : Int))))) := by kernel_rfl
theorem rof_ok : CtrOK Tryd.prog 49 rofC :=
  fun_ok (G := rofG) (Λ := []) tysOK (ctrs_cons rhas_ok ctrs_nil) mixed (by kernel_rfl) (by kernel_rfl) (by kernel_rfl) (by kernel_rfl) lp_nil fun (x : DCosts × Int) hw _ => by
    rw [congrFun rof_tree x]
    exact holds_val (d := rofC.fn x) (by kernel_rfl) (by simp [Tree.safe]; exact has_in)
def upC : Ctr := { args := [gCosts], res := [.sl (.int .i64)], pre := none, fn := fun (x : DCosts) => elemsF x.1 16 }
def upG : List (Nat × Ctr) := [(102, listC)]
theorem up_tree : (fun x : DCosts => evFn (mkC tys upG []) (fnOf Tryd.prog 44) (resL upC.args x) upC.res) =
  (fun x => Tree.leaf (elemsF x.1 (16 : Nat))) := by kernel_rfl
theorem up_ok : CtrOK Tryd.prog 44 upC :=
  fun_ok (G := upG) (Λ := []) tysOK (ctrs_cons list_ok ctrs_nil) mixed (by kernel_rfl) (by kernel_rfl) (by kernel_rfl) (by kernel_rfl) lp_nil fun (x : DCosts) hw _ => by
    rw [congrFun up_tree x]
    exact holds_val (d := upC.fn x) (by kernel_rfl) (by simp [Tree.safe])
def rupC : Ctr := { args := [gCosts], res := [.sl (.int .i64)], pre := none, fn := fun (x : DCosts) => elemsF x.1 16 }
def rupG : List (Nat × Ctr) := [(105, rlistC)]
theorem rup_tree : (fun x : DCosts => evFn (mkC tys rupG []) (fnOf Tryd.prog 45) (resL rupC.args x) rupC.res) =
  (fun x => Tree.leaf (elemsF x.1 (16 : Nat))) := by kernel_rfl
theorem rup_ok : CtrOK Tryd.prog 45 rupC :=
  fun_ok (G := rupG) (Λ := []) tysOK (ctrs_cons rlist_ok ctrs_nil) mixed (by kernel_rfl) (by kernel_rfl) (by kernel_rfl) (by kernel_rfl) lp_nil fun (x : DCosts) hw _ => by
    rw [congrFun rup_tree x]
    exact holds_val (d := rupC.fn x) (by kernel_rfl) (by simp [Tree.safe])
end Go.Ev.D
/- Sound costs. -/
set_option linter.unusedVariables false
set_option linter.unusedSimpArgs false
namespace Go.Ev.D
open Go.Proofs
def soundG : List (Nat × Ctr) := [(44, upC), (108, rcostC)]
theorem soundG_ok : CtrsOK Tryd.prog (fun f => lk f soundG) := (ctrs_cons up_ok (ctrs_cons rcost_ok ctrs_nil))
def soundC : Ctr := { args := [gCosts], res := [.bool], pre := none, fn := fun (x : DCosts) => soundF x }
def soundD : LoopD where
  prom := []
  ts := [(1, .ptr 1 gCosts), (2, .val .bool), (3, .ptr 3 (.arr 16 (.int .u32))), (15, .val (.sl (.int .i64))), (16, .val (.int .i64)), (17, .val (.int .i64))]
  bs := [(1, .var gCosts), (3, .var (.arr 16 (.int .u32)))]
  pre := fun (x : (Bool × List Int × Int × Int × Unit) × DCosts × List Int × Unit) => 0 ≤ x.1.2.2.2.1 ∧ x.1.2.2.2.1 ≤ x.1.2.2.1 ∧ x.1.2.2.1 = x.1.2.1.length ∧ x.1.2.2.1 ≤ 16 ∧ ∀ n ∈ x.1.2.1, 0 ≤ n ∧ n < 16
  out := fun (x : (Bool × List Int × Int × Int × Unit) × DCosts × List Int × Unit) =>
    .br (goodL x.2.1 (x.1.2.1.drop x.1.2.2.2.1.toNat)) (.leaf (.exit 0, ((x.1.1, x.1.2.1, x.1.2.2.1, x.1.2.2.1, ()), x.2.1, fillL x.2.1 (x.1.2.1.drop x.1.2.2.2.1.toNat) x.2.2.1, ())))
      (.leaf (.ret, ((false, x.1.2.1, x.1.2.2.1, (badL x.2.1 (x.1.2.1.drop x.1.2.2.2.1.toNat) x.2.2.1 x.1.2.2.2.1).1, ()), x.2.1, (badL x.2.1 (x.1.2.1.drop x.1.2.2.2.1.toNat) x.2.2.1 x.1.2.2.2.1).2, ())))
theorem sound_round : (fun x : (Bool × List Int × Int × Int × Unit) × DCosts × List Int × Unit => roundOf (mkC tys soundG [(0, soundD.spec)]) soundD (loopB 0 (bodyOf (fnOf Tryd.prog 50))) x) =
  (fun x =>
    Tree.br (decide (x.1.2.2.2.1 < x.1.2.2.1))
      (Tree.need ((0 : Int) ≤ x.1.2.2.2.1 ∧ x.1.2.2.2.1 < (↑(List.length x.1.2.1) : Int))
        (Tree.need ((0 : Int) ≤ List.getD x.1.2.1 (Int.toNat x.1.2.2.2.1) (0 : Int) ∧ List.getD x.1.2.1 (Int.toNat x.1.2.2.2.1) (0 : Int) < (16 : Int))
          (Tree.br (!rcostF (List.getD x.2.1.2 (Int.toNat (List.getD x.1.2.1 (Int.toNat x.1.2.2.2.1) (0 : Int))) (0 : Int)))
            (Tree.leaf (Ex.ret, some ((false, x.1.2.1, x.1.2.2.1, x.1.2.2.2.1, ()), x.2.1, x.2.2.1, ())))
            (Tree.need ((0 : Int) ≤ List.getD x.1.2.1 (Int.toNat x.1.2.2.2.1) (0 : Int) ∧ List.getD x.1.2.1 (Int.toNat x.1.2.2.2.1) (0 : Int) < (16 : Int))
              (Tree.need ((0 : Int) ≤ List.getD x.1.2.1 (Int.toNat x.1.2.2.2.1) (0 : Int) ∧ List.getD x.1.2.1 (Int.toNat x.1.2.2.2.1) (0 : Int) < (16 : Int))
                (Tree.leaf
                  (Ex.normal,
                    some
                      ((x.1.1, x.1.2.1, x.1.2.2.1, IntKind.wrap IntKind.i64 (x.1.2.2.2.1 + (1 : Int)), ()), x.2.1,
                        List.set x.2.2.1 (Int.toNat (List.getD x.1.2.1 (Int.toNat x.1.2.2.2.1) (0 : Int)))
                          (List.getD x.2.1.2 (Int.toNat (List.getD x.1.2.1 (Int.toNat x.1.2.2.2.1) (0 : Int))) (0 : Int)),
                        ()))))))))
      (Tree.leaf (Ex.exit (0 : Nat), some ((x.1.1, x.1.2.1, x.1.2.2.1, x.1.2.2.2.1, ()), x.2.1, x.2.2.1, ())))) := by kernel_rfl
theorem sound_loop : LoopOK (mkC tys soundG [(0, soundD.spec)]) soundD.spec (loopB 0 (bodyOf (fnOf Tryd.prog 50))) :=
  loopD_ok (fun x => congrFun sound_round x) (fun (x : (Bool × List Int × Int × Int × Unit) × DCosts × List Int × Unit) => (x.1.2.2.1 - x.1.2.2.2.1).toNat) fun (x : (Bool × List Int × Int × Int × Unit) × DCosts × List Int × Unit) hp => by
    obtain ⟨⟨b, l, m, i, ⟨⟩⟩, c, w, ⟨⟩⟩ := x
    obtain ⟨h1, h2, h3, h4, h5⟩ := hp
    simp only at h1 h2 h3 h4 h5
    simp only [Tree.holds]
    refine ⟨fun h => ?_, fun h => ?_⟩
    · have h' : i < m := by simpa using h
      have e : IntKind.i64.wrap (i + 1) = i + 1 := i64_id (by omega) (by omega)
      have hd := drop_step (l := l) (0 : Int) h1 (by omega)
      have hn : l.getD i.toNat 0 ∈ l := by
        have : i.toNat < l.length := by omega
        simp [List.getD, this]
      have hb := h5 _ hn
      have hr : 0 ≤ i ∧ i < (l.length : Int) := by omega
      generalize l.getD i.toNat 0 = n at *
      refine ⟨hr, hb, fun hc => ⟨_, rfl, fun G hG => ?_⟩, fun hc => ⟨hb, hb, _, rfl, ⟨?_, ?_, h3, h4, h5⟩, ?_, fun G hG => ?_⟩⟩
      · have hc' : rcostF (costAt c n) = false := by simpa [costAt] using hc
        have hg : goodL c (l.drop i.toNat) = false := by rw [hd]; simp [goodL, hc']
        have hG' := (hG.2 hg : G _)
        rw [hd] at hG'
        simp only [badL, hc', cond_false] at hG'
        exact hG'
      · show 0 ≤ IntKind.i64.wrap (i + 1); omega
      · show IntKind.i64.wrap (i + 1) ≤ m; omega
      · show (m - IntKind.i64.wrap (i + 1)).toNat < (m - i).toNat; omega
      · have hc' : rcostF (costAt c n) = true := by simpa [costAt] using hc
        have hg : goodL c (l.drop i.toNat) = goodL c (l.drop (i + 1).toNat) := by rw [hd]; simp [goodL, hc']
        have hf : fillL c (l.drop i.toNat) w = fillL c (l.drop (i + 1).toNat) (w.set n.toNat (costAt c n)) := by rw [hd]; rfl
        have hbd : badL c (l.drop i.toNat) w i = badL c (l.drop (i + 1).toNat) (w.set n.toNat (costAt c n)) (i + 1) := by rw [hd]; simp only [badL, hc', cond_true]
        have hG' : (goodL c (l.drop i.toNat) = true → G (.exit 0, ((b, l, m, m, ()), c, fillL c (l.drop i.toNat) w, ()))) ∧ (goodL c (l.drop i.toNat) = false → G (.ret, ((false, l, m, (badL c (l.drop i.toNat) w i).1, ()), c, (badL c (l.drop i.toNat) w i).2, ()))) := hG
        rw [hg, hf, hbd] at hG'
        show (goodL c (l.drop (IntKind.i64.wrap (i + 1)).toNat) = true → G (.exit 0, ((b, l, m, m, ()), c, fillL c (l.drop (IntKind.i64.wrap (i + 1)).toNat) (w.set n.toNat (costAt c n)), ()))) ∧
          (goodL c (l.drop (IntKind.i64.wrap (i + 1)).toNat) = false → G (.ret, ((false, l, m, (badL c (l.drop (IntKind.i64.wrap (i + 1)).toNat) (w.set n.toNat (costAt c n)) (IntKind.i64.wrap (i + 1))).1, ()), c, (badL c (l.drop (IntKind.i64.wrap (i + 1)).toNat) (w.set n.toNat (costAt c n)) (IntKind.i64.wrap (i + 1))).2, ())))
        rw [e]
        exact hG'
    · have h' : ¬ i < m := by simpa using h
      have hi : i = m := by omega
      subst hi
      have hd : l.drop i.toNat = [] := List.drop_eq_nil_of_le (by omega)
      refine ⟨_, rfl, fun G hG => ?_⟩
      have hG' : (goodL c (l.drop i.toNat) = true → G (.exit 0, ((b, l, i, i, ()), c, fillL c (l.drop i.toNat) w, ()))) ∧ (goodL c (l.drop i.toNat) = false → G (.ret, ((false, l, i, (badL c (l.drop i.toNat) w i).1, ()), c, (badL c (l.drop i.toNat) w i).2, ()))) := hG
      rw [hd] at hG'
      exact hG'.1 rfl
theorem sound_tree : (fun x : DCosts => evFn (mkC tys soundG [(0, soundD.spec)]) (fnOf Tryd.prog 50) (resL soundC.args x) soundC.res) =
  (fun x =>
    Tree.br (bif decide (x.1 < (0 : Int)) then true else decide (x.1 ≥ (65536 : Int))) (Tree.leaf false)
      (Tree.need
        ((0 : Int) ≤ (0 : Int) ∧
          (0 : Int) ≤ (↑(List.length (elemsF x.1 (16 : Nat))) : Int) ∧
            (↑(List.length (elemsF x.1 (16 : Nat))) : Int) = (↑(List.length (elemsF x.1 (16 : Nat))) : Int) ∧
              (↑(List.length (elemsF x.1 (16 : Nat))) : Int) ≤ (16 : Int) ∧ ∀ (n : Int), n ∈ elemsF x.1 (16 : Nat) → (0 : Int) ≤ n ∧ n < (16 : Int))
        (Tree.br (goodL x (List.drop (Int.toNat (0 : Int)) (elemsF x.1 (16 : Nat))))
          (Tree.leaf (geq (GTy.arr (16 : Nat) (GTy.int IntKind.u32)) x.2 (fillL x (List.drop (Int.toNat (0 : Int)) (elemsF x.1 (16 : Nat))) (List.replicate (16 : Nat) (0 : Int))))) (Tree.leaf false)))) := by kernel_rfl
theorem sound_ok : CtrOK Tryd.prog 50 soundC :=
  fun_ok (G := soundG) (Λ := [(0, soundD.spec)]) tysOK soundG_ok mixed (by kernel_rfl) (by kernel_rfl) (by kernel_rfl) (by kernel_rfl) (lp_cons sound_loop lp_nil) fun (x : DCosts) hw _ => by
    rw [congrFun sound_tree x]
    have hl : x.2.length = 16 := hw.2.1
    refine holds_val (d := false) (sound_fn hl) ?_
    have hn : ∀ n ∈ elemsF x.1 16, 0 ≤ n ∧ n < 16 := fun n h => by
      have := (mem_elems (Nat.le_refl _)).1 h
      omega
    have hlen := elems_len x.1 16
    exact ⟨fun _ => trivial, fun _ => ⟨⟨by omega, by omega, rfl, by omega, hn⟩, fun _ => trivial, fun _ => trivial⟩⟩
def rsoundG : List (Nat × Ctr) := [(111, rhasC)]
theorem rsoundG_ok : CtrsOK Tryd.prog (fun f => lk f rsoundG) := (ctrs_cons rhas_ok ctrs_nil)
def rsoundC : Ctr := { args := [gCosts], res := [.bool], pre := none, fn := fun (x : DCosts) => soundF x }
def rsoundD : LoopD where
  prom := []
  ts := [(1, .ptr 1 gCosts), (2, .val .bool), (6, .val (.arr 16 (.int .u32))), (7, .val (.int .i64))]
  bs := [(1, .var gCosts)]
  pre := fun (x : (Bool × List Int × Int × Unit) × DCosts × Unit) => 0 ≤ x.1.2.2.1 ∧ x.1.2.2.1 ≤ 16 ∧ x.1.2.1 = x.2.1.2
  out := fun (x : (Bool × List Int × Int × Unit) × DCosts × Unit) => .br (allOk x.2.1 (16 - x.1.2.2.1).toNat) (.leaf (.exit 0, ((x.1.1, x.1.2.1, 16, ()), x.2.1, ()))) (.leaf (.ret, ((false, x.1.2.1, firstBad x.2.1 (16 - x.1.2.2.1).toNat, ()), x.2.1, ())))
theorem rsound_round : (fun x : (Bool × List Int × Int × Unit) × DCosts × Unit => roundOf (mkC tys rsoundG [(0, rsoundD.spec)]) rsoundD (loopB 0 (bodyOf (fnOf Tryd.prog 51))) x) =
  (fun x =>
    Tree.br (decide (x.1.2.2.1 < (16 : Int)))
      (Tree.need ((0 : Int) ≤ x.1.2.2.1 ∧ x.1.2.2.1 < (16 : Int))
        (Tree.br
          (bif
              !geq GTy.bool (hasF x.2.1.1 x.1.2.2.1)
                  (bif decide (List.getD x.1.2.1 (Int.toNat x.1.2.2.1) (0 : Int) ≥ (1 : Int)) then decide (List.getD x.1.2.1 (Int.toNat x.1.2.2.1) (0 : Int) ≤ (65536 : Int)) else false) then
            true
          else bif !hasF x.2.1.1 x.1.2.2.1 then List.getD x.1.2.1 (Int.toNat x.1.2.2.1) (0 : Int) != (0 : Int) else false)
          (Tree.leaf (Ex.ret, some ((false, x.1.2.1, x.1.2.2.1, ()), x.2.1, ()))) (Tree.leaf (Ex.normal, some ((x.1.1, x.1.2.1, IntKind.wrap IntKind.i64 (x.1.2.2.1 + (1 : Int)), ()), x.2.1, ())))))
      (Tree.leaf (Ex.exit (0 : Nat), some ((x.1.1, x.1.2.1, x.1.2.2.1, ()), x.2.1, ())))) := by kernel_rfl
theorem rsound_tree : (fun x : DCosts => evFn (mkC tys rsoundG [(0, rsoundD.spec)]) (fnOf Tryd.prog 51) (resL rsoundC.args x) rsoundC.res) =
  (fun x =>
    Tree.need ((0 : Int) ≤ (0 : Int) ∧ (0 : Int) ≤ (16 : Int) ∧ x.2 = x.2)
      (Tree.br (allOk x (Int.toNat ((16 : Int) - (0 : Int)))) (Tree.leaf (bif decide (x.1 ≥ (0 : Int)) then decide (x.1 ≤ (65535 : Int)) else false)) (Tree.leaf false))) := by kernel_rfl
theorem rsound_loop : LoopOK (mkC tys rsoundG [(0, rsoundD.spec)]) rsoundD.spec (loopB 0 (bodyOf (fnOf Tryd.prog 51))) :=
  loopD_ok (fun x => congrFun rsound_round x) (fun (x : (Bool × List Int × Int × Unit) × DCosts × Unit) => (16 - x.1.2.2.1).toNat) fun (x : (Bool × List Int × Int × Unit) × DCosts × Unit) hp => by
    obtain ⟨⟨b, l, i, ⟨⟩⟩, c, ⟨⟩⟩ := x
    obtain ⟨h1, h2, h3⟩ := hp
    simp only at h1 h2 h3
    subst h3
    simp only [Tree.holds]
    refine ⟨fun h => ?_, fun h => ?_⟩
    · have h' : i < 16 := by simpa using h
      have e : IntKind.i64.wrap (i + 1) = i + 1 := i64_id (by omega) (by omega)
      have hk : (16 - i).toNat = (16 - (i + 1)).toNat + 1 := by omega
      have hi : (16 : Int) - ((16 - (i + 1)).toNat + 1 : Nat) = i := by omega
      have hr := round_ok (c := c) (n := i)
      simp only [costAt] at hr
      refine ⟨⟨h1, h'⟩, fun hc => ⟨_, rfl, fun G hG => ?_⟩, fun hc => ⟨_, rfl, ⟨?_, ?_, rfl⟩, ?_, fun G hG => ?_⟩⟩
      · have ho : okAt c i = false := by
          have := hr.symm.trans hc
          simpa using this
        have hG' : allOk c (16 - i).toNat = false → G (.ret, ((false, c.2, firstBad c (16 - i).toNat, ()), c, ())) := hG.2
        rw [hk] at hG'
        simp only [allOk, firstBad, hi, ho, Bool.false_and, cond_false] at hG'
        exact hG' trivial
      · show 0 ≤ IntKind.i64.wrap (i + 1); omega
      · show IntKind.i64.wrap (i + 1) ≤ 16; omega
      · show (16 - IntKind.i64.wrap (i + 1)).toNat < (16 - i).toNat; omega
      · have ho : okAt c i = true := by
          have := hr.symm.trans hc
          simpa using this
        have hG' : (allOk c (16 - i).toNat = true → G (.exit 0, ((b, c.2, 16, ()), c, ()))) ∧ (allOk c (16 - i).toNat = false → G (.ret, ((false, c.2, firstBad c (16 - i).toNat, ()), c, ()))) := hG
        rw [hk] at hG'
        simp only [allOk, firstBad, hi, ho, Bool.true_and, cond_true] at hG'
        show (allOk c (16 - IntKind.i64.wrap (i + 1)).toNat = true → G (.exit 0, ((b, c.2, 16, ()), c, ()))) ∧ (allOk c (16 - IntKind.i64.wrap (i + 1)).toNat = false → G (.ret, ((false, c.2, firstBad c (16 - IntKind.i64.wrap (i + 1)).toNat, ()), c, ())))
        rw [e]
        exact hG'
    · have h' : ¬ i < 16 := by simpa using h
      have hi : i = 16 := by omega
      subst hi
      refine ⟨_, rfl, fun G hG => ?_⟩
      exact hG.1 rfl
theorem rsound_ok : CtrOK Tryd.prog 51 rsoundC :=
  fun_ok (G := rsoundG) (Λ := [(0, rsoundD.spec)]) tysOK rsoundG_ok mixed (by kernel_rfl) (by kernel_rfl) (by kernel_rfl) (by kernel_rfl) (lp_cons rsound_loop lp_nil) fun (x : DCosts) hw _ => by
    rw [congrFun rsound_tree x]
    refine holds_val (d := false) (rsound_fn x) ?_
    exact ⟨⟨by omega, by omega, rfl⟩, fun _ => trivial, fun _ => trivial⟩
end Go.Ev.D
/- Configurations that may be, plainly. -/
set_option linter.unusedVariables false
set_option linter.unusedSimpArgs false
namespace Go.Ev
def confF (c : DConf) : Int := bif bif !rightF c.1 then true else !soundF c.2.2 then 1 else bif hasF c.2.2.1 c.1 then 10 else bif !rulesF c.2.1 then 3 else 0
def cpairF (a b : DConf) : Bool := bif bif a.1 != b.1 then hasF a.2.2.1 b.1 else false then hasF b.2.2.1 a.1 else false
/-- A node of the last k of the set is not below so many. -/
def strayK (s m : Int) : Nat → Bool
  | 0 => false
  | k + 1 => bif hasF s (16 - (k + 1 : Nat)) then bif decide (16 - ((k + 1 : Nat) : Int) ≥ m) then true else strayK s m k else strayK s m k
def strayAt (s m : Int) : Nat → Int
  | 0 => 16
  | k + 1 => bif hasF s (16 - (k + 1 : Nat)) then bif decide (16 - ((k + 1 : Nat) : Int) ≥ m) then 16 - ((k + 1 : Nat) : Int) else strayAt s m k else strayAt s m k
def straysF (s m : Int) : Bool := strayK s m 16
def anyGe (m : Int) : List Int → Bool
  | [] => false
  | n :: r => bif decide (n ≥ m) then true else anyGe m r
def anyAt (m : Int) : List Int → Int → Int
  | [], i => i
  | n :: r, i => bif decide (n ≥ m) then i else anyAt m r (i + 1)
theorem any_stray (s m : Int) : ∀ k, anyGe m (elemsF s k) = strayK s m k
  | 0 => rfl
  | k + 1 => by
    have ih := any_stray s m k
    rw [elemsF, strayK]
    cases hasF s (16 - (k + 1 : Nat)) with
    | false => simpa using ih
    | true =>
      simp only [cond_true, List.cons_append, List.nil_append, anyGe]
      rw [ih]
def netGo (m : Int) : List DConf → Int → Int
  | [], _ => 0
  | c :: r, i => bif confF c != 0 then confF c else bif c.1 != i then 1 else bif straysF c.2.2.1 m then 9 else netGo m r (i + 1)
def netAt (m : Int) : List DConf → Int → Int
  | [], i => i
  | c :: r, i => bif confF c != 0 then i else bif c.1 != i then i else bif straysF c.2.2.1 m then i else netAt m r (i + 1)
def netF (l : List DConf) : Int := bif bif decide ((l.length : Int) < 1) then true else decide ((l.length : Int) > 8) then 4 else bif netGo l.length l 0 == 0 then 0 else netGo l.length l 0
def conf0 : DConf := (0, (0, 0, 0, 0), 0, List.replicate 16 0)

theorem stray_step {s m i : Int} {b : Bool} {c : DConf} (hs : c.2.2.1 = s) (h : 0 ≤ i ∧ i ≤ 16) :
    ((decide (i < 16) = true → (((!hasF s i) = true → ∃ y : (Int × Bool × Int × Unit) × DConf × Unit, some ((m, b, IntKind.i64.wrap (i + 1), ()), c, ()) = some y ∧
        (0 ≤ y.1.2.2.1 ∧ y.1.2.2.1 ≤ 16) ∧ (16 - y.1.2.2.1).toNat < (16 - i).toNat ∧
          (Ex.exit 0, ((y.1.1, bif strayK y.2.1.2.2.1 y.1.1 (16 - y.1.2.2.1).toNat then true else y.1.2.1, strayAt y.2.1.2.2.1 y.1.1 (16 - y.1.2.2.1).toNat, ()), y.2.1, ())) = (Ex.exit 0, ((m, bif strayK s m (16 - i).toNat then true else b, strayAt s m (16 - i).toNat, ()), c, ()))) ∧
      ((!hasF s i) = false → ((decide (i ≥ m) = true → ∃ y : (Int × Bool × Int × Unit) × DConf × Unit, some ((m, true, i, ()), c, ()) = some y ∧ (Ex.exit 0, ((m, bif strayK s m (16 - i).toNat then true else b, strayAt s m (16 - i).toNat, ()), c, ())) = (Ex.exit 0, y)) ∧
        (decide (i ≥ m) = false → ∃ y : (Int × Bool × Int × Unit) × DConf × Unit, some ((m, b, IntKind.i64.wrap (i + 1), ()), c, ()) = some y ∧
          (0 ≤ y.1.2.2.1 ∧ y.1.2.2.1 ≤ 16) ∧ (16 - y.1.2.2.1).toNat < (16 - i).toNat ∧
            (Ex.exit 0, ((y.1.1, bif strayK y.2.1.2.2.1 y.1.1 (16 - y.1.2.2.1).toNat then true else y.1.2.1, strayAt y.2.1.2.2.1 y.1.1 (16 - y.1.2.2.1).toNat, ()), y.2.1, ())) = (Ex.exit 0, ((m, bif strayK s m (16 - i).toNat then true else b, strayAt s m (16 - i).toNat, ()), c, ()))))))) ∧
      (decide (i < 16) = false → ∃ y : (Int × Bool × Int × Unit) × DConf × Unit, some ((m, b, i, ()), c, ()) = some y ∧ (Ex.exit 0, ((m, bif strayK s m (16 - i).toNat then true else b, strayAt s m (16 - i).toNat, ()), c, ())) = (Ex.exit 0, y))) := by
  obtain ⟨h1, h2⟩ := h
  subst hs
  refine ⟨fun h => ?_, fun h => ?_⟩
  · have h' : i < 16 := by simpa using h
    have e : IntKind.i64.wrap (i + 1) = i + 1 := i64_id (by omega) (by omega)
    have hk : (16 - i).toNat = (16 - (i + 1)).toNat + 1 := by omega
    have hi : (16 : Int) - ((16 - (i + 1)).toNat + 1 : Nat) = i := by omega
    rw [e, hk]
    simp only [strayK, strayAt, hi]
    refine ⟨fun hh => ?_, fun hh => ⟨fun hm => ?_, fun hm => ?_⟩⟩
    · have hb : hasF c.2.2.1 i = false := by simpa using hh
      rw [hb]
      exact ⟨_, rfl, ⟨by simp only []; omega, by simp only []; omega⟩, by simp only []; omega, rfl⟩
    · have hb : hasF c.2.2.1 i = true := by simpa using hh
      rw [hb, hm]
      exact ⟨_, rfl, rfl⟩
    · have hb : hasF c.2.2.1 i = true := by simpa using hh
      rw [hb, hm]
      exact ⟨_, rfl, ⟨by simp only []; omega, by simp only []; omega⟩, by simp only []; omega, rfl⟩
  · have h' : i = 16 := by
      have : ¬ i < 16 := by simpa using h
      omega
    subst h'
    exact ⟨_, rfl, rfl⟩
end Go.Ev
/- Configurations that may be. -/
set_option linter.unusedVariables false
set_option linter.unusedSimpArgs false
namespace Go.Ev.D
open Go.Proofs
def withinC : Ctr := { args := [.int .i64, .int .i64, .int .i64], res := [.bool], pre := none, fn := fun (x : Int × Int × Int) => withinF x.1 x.2.1 x.2.2 }
def withinG : List (Nat × Ctr) := []
theorem within_tree : (fun x : Int × Int × Int => evFn (mkC tys withinG []) (fnOf Tryd.prog 144) (resL withinC.args x) withinC.res) =
  (fun x => Tree.leaf (bif decide (x.1 ≥ x.2.1) then decide (x.1 ≤ x.2.2) else false)) := by kernel_rfl
theorem within_ok : CtrOK Tryd.prog 144 withinC :=
  fun_ok (G := withinG) (Λ := []) tysOK ctrs_nil mixed (by kernel_rfl) (by kernel_rfl) (by kernel_rfl) (by kernel_rfl) lp_nil fun (x : Int × Int × Int) hw _ => by
    rw [congrFun within_tree x]
    exact holds_val (d := withinC.fn x) (by kernel_rfl) (by simp [Tree.safe])
def rulesC : Ctr := { args := [gRules], res := [.bool], pre := none, fn := fun (x : DRules) => rulesF x }
def rulesG : List (Nat × Ctr) := [(144, withinC)]
theorem rules_tree : (fun x : DRules => evFn (mkC tys rulesG []) (fnOf Tryd.prog 125) (resL rulesC.args x) rulesC.res) =
  (fun x =>
    Tree.leaf
      (bif bif bif bif withinF x.1 (1 : Int) (100 : Int) then decide (x.2.1 > x.1) else false then decide (x.2.1 ≤ (1000 : Int)) else false then withinF x.2.2.1 (1 : Int) (100 : Int) else false then
        withinF x.2.2.2 (1 : Int) (10 : Int)
      else false)) := by kernel_rfl
theorem rules_ok : CtrOK Tryd.prog 125 rulesC :=
  fun_ok (G := rulesG) (Λ := []) tysOK (ctrs_cons within_ok ctrs_nil) mixed (by kernel_rfl) (by kernel_rfl) (by kernel_rfl) (by kernel_rfl) lp_nil fun (x : DRules) hw _ => by
    rw [congrFun rules_tree x]
    exact holds_val (d := rulesC.fn x) (by kernel_rfl) (by simp [Tree.safe])
def confC : Ctr := { args := [gConf], res := [.int .i64], pre := none, fn := fun (x : DConf) => confF x }
def confG : List (Nat × Ctr) := [(72, rightC), (50, soundC), (41, hasC), (125, rulesC)]
theorem conf_tree : (fun x : DConf => evFn (mkC tys confG []) (fnOf Tryd.prog 64) (resL confC.args x) confC.res) =
  (fun x =>
    Tree.br (bif !rightF x.1 then true else !soundF x.2.2) (Tree.leaf (1 : Int)) (Tree.br (hasF x.2.2.1 x.1) (Tree.leaf (10 : Int)) (Tree.br (!rulesF x.2.1) (Tree.leaf (3 : Int)) (Tree.leaf (0 : Int))))) := by kernel_rfl
theorem conf_ok : CtrOK Tryd.prog 64 confC :=
  fun_ok (G := confG) (Λ := []) tysOK (ctrs_cons right_ok (ctrs_cons sound_ok (ctrs_cons has_ok (ctrs_cons rules_ok ctrs_nil)))) mixed (by kernel_rfl) (by kernel_rfl) (by kernel_rfl) (by kernel_rfl) lp_nil fun (x : DConf) hw _ => by
    rw [congrFun conf_tree x]
    exact holds_val (d := confC.fn x) (by kernel_rfl) (by simp [Tree.safe])
def pairC : Ctr := { args := [gConf, gConf], res := [.bool], pre := none, fn := fun (x : DConf × DConf) => cpairF x.1 x.2 }
def pairG : List (Nat × Ctr) := [(41, hasC)]
theorem pair_tree : (fun x : DConf × DConf => evFn (mkC tys pairG []) (fnOf Tryd.prog 62) (resL pairC.args x) pairC.res) =
  (fun x => Tree.leaf (bif bif x.1.1 != x.2.1 then hasF x.1.2.2.1 x.2.1 else false then hasF x.2.2.2.1 x.1.1 else false)) := by kernel_rfl
theorem pair_ok : CtrOK Tryd.prog 62 pairC :=
  fun_ok (G := pairG) (Λ := []) tysOK (ctrs_cons has_ok ctrs_nil) mixed (by kernel_rfl) (by kernel_rfl) (by kernel_rfl) (by kernel_rfl) lp_nil fun (x : DConf × DConf) hw _ => by
    rw [congrFun pair_tree x]
    exact holds_val (d := pairC.fn x) (by kernel_rfl) (by simp [Tree.safe])
def straysG : List (Nat × Ctr) := [(41, hasC)]
theorem straysG_ok : CtrsOK Tryd.prog (fun f => lk f straysG) := (ctrs_cons has_ok ctrs_nil)
def straysC : Ctr := { args := [gConf, .int .i64], res := [.bool], pre := none, fn := fun (x : DConf × Int) => straysF x.1.2.2.1 x.2 }
def straysD : LoopD where
  prom := []
  ts := [(1, .val (.int .i64)), (2, .ptr 2 gConf), (5, .val .bool), (7, .val (.int .i64))]
  bs := [(2, .var gConf)]
  pre := fun (x : (Int × Bool × Int × Unit) × DConf × Unit) => 0 ≤ x.1.2.2.1 ∧ x.1.2.2.1 ≤ 16
  out := fun (x : (Int × Bool × Int × Unit) × DConf × Unit) => .leaf (.exit 0, ((x.1.1, bif strayK x.2.1.2.2.1 x.1.1 (16 - x.1.2.2.1).toNat then true else x.1.2.1, strayAt x.2.1.2.2.1 x.1.1 (16 - x.1.2.2.1).toNat, ()), x.2.1, ()))
theorem strays_round : (fun x : (Int × Bool × Int × Unit) × DConf × Unit => roundOf (mkC tys straysG [(0, straysD.spec)]) straysD (loopB 0 (bodyOf (fnOf Tryd.prog 145))) x) =
  (fun x =>
    Tree.br (decide (x.1.2.2.1 < (16 : Int)))
      (Tree.br (!hasF x.2.1.2.2.1 x.1.2.2.1) (Tree.leaf (Ex.normal, some ((x.1.1, x.1.2.1, IntKind.wrap IntKind.i64 (x.1.2.2.1 + (1 : Int)), ()), x.2.1, ())))
        (Tree.br (decide (x.1.2.2.1 ≥ x.1.1)) (Tree.leaf (Ex.exit (0 : Nat), some ((x.1.1, true, x.1.2.2.1, ()), x.2.1, ())))
          (Tree.leaf (Ex.normal, some ((x.1.1, x.1.2.1, IntKind.wrap IntKind.i64 (x.1.2.2.1 + (1 : Int)), ()), x.2.1, ())))))
      (Tree.leaf (Ex.exit (0 : Nat), some ((x.1.1, x.1.2.1, x.1.2.2.1, ()), x.2.1, ())))) := by kernel_rfl
theorem strays_loop : LoopOK (mkC tys straysG [(0, straysD.spec)]) straysD.spec (loopB 0 (bodyOf (fnOf Tryd.prog 145))) :=
  loopD_ok1 (fun _ => rfl) (fun x => congrFun strays_round x) (fun (x : (Int × Bool × Int × Unit) × DConf × Unit) => (16 - x.1.2.2.1).toNat) fun (x : (Int × Bool × Int × Unit) × DConf × Unit) hp => by
    obtain ⟨⟨m, b, i, ⟨⟩⟩, c, ⟨⟩⟩ := x
    exact stray_step rfl hp
theorem strays_tree : (fun x : DConf × Int => evFn (mkC tys straysG [(0, straysD.spec)]) (fnOf Tryd.prog 145) (resL straysC.args x) straysC.res) =
  (fun x => Tree.need ((0 : Int) ≤ (0 : Int) ∧ (0 : Int) ≤ (16 : Int)) (Tree.leaf (bif strayK x.1.2.2.1 x.2 (Int.toNat ((16 : Int) - (0 : Int))) then true else false))) := by kernel_rfl
theorem strays_ok : CtrOK Tryd.prog 145 straysC :=
  fun_ok (G := straysG) (Λ := [(0, straysD.spec)]) tysOK straysG_ok mixed (by kernel_rfl) (by kernel_rfl) (by kernel_rfl) (by kernel_rfl) (lp_cons strays_loop lp_nil) fun (x : DConf × Int) hw _ => by
    rw [congrFun strays_tree x]
    exact holds_val (d := false) (show (bif strayK x.1.2.2.1 x.2 16 then true else false) = strayK x.1.2.2.1 x.2 16 from by cases strayK x.1.2.2.1 x.2 16 <;> rfl) ⟨⟨by omega, by omega⟩, trivial⟩
def netG : List (Nat × Ctr) := [(64, confC), (145, straysC)]
theorem netG_ok : CtrsOK Tryd.prog (fun f => lk f netG) := (ctrs_cons conf_ok (ctrs_cons strays_ok ctrs_nil))
def netC : Ctr := { args := [.sl gConf], res := [.int .i64], pre := none, fn := fun (x : List DConf) => netF x }
def netD : LoopD where
  prom := []
  ts := [(0, .val (.sl gConf)), (2, .val (.int .i64)), (14, .val (.sl gConf)), (15, .val (.int .i64)), (16, .val (.int .i64))]
  bs := []
  pre := fun (x : (List DConf × Int × List DConf × Int × Int × Unit) × Unit) => 0 ≤ x.1.2.2.2.2.1 ∧ x.1.2.2.2.2.1 ≤ x.1.2.2.2.1 ∧ x.1.2.2.2.1 = (x.1.2.2.1.length : Int) ∧ x.1.2.2.2.1 ≤ 8
  out := fun (x : (List DConf × Int × List DConf × Int × Int × Unit) × Unit) =>
    .br (netGo x.1.1.length (x.1.2.2.1.drop x.1.2.2.2.2.1.toNat) x.1.2.2.2.2.1 == 0) (.leaf (.exit 0, ((x.1.1, x.1.2.1, x.1.2.2.1, x.1.2.2.2.1, x.1.2.2.2.1, ()), ())))
      (.leaf (.ret, ((x.1.1, netGo x.1.1.length (x.1.2.2.1.drop x.1.2.2.2.2.1.toNat) x.1.2.2.2.2.1, x.1.2.2.1, x.1.2.2.2.1, netAt x.1.1.length (x.1.2.2.1.drop x.1.2.2.2.2.1.toNat) x.1.2.2.2.2.1, ()), ())))
theorem net_round : (fun x : (List DConf × Int × List DConf × Int × Int × Unit) × Unit => roundOf (mkC tys netG [(0, netD.spec)]) netD (loopB 0 (bodyOf (fnOf Tryd.prog 127))) x) =
  (fun x =>
    Tree.br (decide (x.1.2.2.2.2.1 < x.1.2.2.2.1))
      (Tree.need ((0 : Int) ≤ x.1.2.2.2.2.1 ∧ x.1.2.2.2.2.1 < (↑(List.length x.1.2.2.1) : Int))
        (Tree.br (confF (List.getD x.1.2.2.1 (Int.toNat x.1.2.2.2.2.1) ((0 : Int), ((0 : Int), (0 : Int), (0 : Int), (0 : Int)), (0 : Int), List.replicate (16 : Nat) (0 : Int))) != (0 : Int))
          (Tree.leaf
            (Ex.ret,
              some
                ((x.1.1, confF (List.getD x.1.2.2.1 (Int.toNat x.1.2.2.2.2.1) ((0 : Int), ((0 : Int), (0 : Int), (0 : Int), (0 : Int)), (0 : Int), List.replicate (16 : Nat) (0 : Int))), x.1.2.2.1,
                    x.1.2.2.2.1, x.1.2.2.2.2.1, ()),
                  ())))
          (Tree.br ((List.getD x.1.2.2.1 (Int.toNat x.1.2.2.2.2.1) ((0 : Int), ((0 : Int), (0 : Int), (0 : Int), (0 : Int)), (0 : Int), List.replicate (16 : Nat) (0 : Int))).1 != x.1.2.2.2.2.1)
            (Tree.leaf (Ex.ret, some ((x.1.1, (1 : Int), x.1.2.2.1, x.1.2.2.2.1, x.1.2.2.2.2.1, ()), ())))
            (Tree.br
              (straysF (List.getD x.1.2.2.1 (Int.toNat x.1.2.2.2.2.1) ((0 : Int), ((0 : Int), (0 : Int), (0 : Int), (0 : Int)), (0 : Int), List.replicate (16 : Nat) (0 : Int))).2.2.1
                (↑(List.length x.1.1) : Int))
              (Tree.leaf (Ex.ret, some ((x.1.1, (9 : Int), x.1.2.2.1, x.1.2.2.2.1, x.1.2.2.2.2.1, ()), ())))
              (Tree.leaf (Ex.normal, some ((x.1.1, x.1.2.1, x.1.2.2.1, x.1.2.2.2.1, IntKind.wrap IntKind.i64 (x.1.2.2.2.2.1 + (1 : Int)), ()), ())))))))
      (Tree.leaf (Ex.exit (0 : Nat), some ((x.1.1, x.1.2.1, x.1.2.2.1, x.1.2.2.2.1, x.1.2.2.2.2.1, ()), ())))) := by kernel_rfl
theorem net_loop : LoopOK (mkC tys netG [(0, netD.spec)]) netD.spec (loopB 0 (bodyOf (fnOf Tryd.prog 127))) :=
  loopD_ok (fun x => congrFun net_round x) (fun (x : (List DConf × Int × List DConf × Int × Int × Unit) × Unit) => (x.1.2.2.2.1 - x.1.2.2.2.2.1).toNat) fun (x : (List DConf × Int × List DConf × Int × Int × Unit) × Unit) hp => by
    obtain ⟨⟨l, t, l', n, i, ⟨⟩⟩, ⟨⟩⟩ := x
    obtain ⟨h1, h2, h3, h4⟩ := hp
    simp only at h1 h2 h3 h4
    simp only [Tree.holds]
    refine ⟨fun h => ?_, fun h => ?_⟩
    · have h' : i < n := by simpa using h
      have e : IntKind.i64.wrap (i + 1) = i + 1 := i64_id (by omega) (by omega)
      have hd := drop_step (l := l') conf0 h1 (by omega)
      have hr : 0 ≤ i ∧ i < (l'.length : Int) := by omega
      have hG0 : ∀ G : Ex × ((List DConf × Int × List DConf × Int × Int × Unit) × Unit) → Prop, (netD.out ((l, t, l', n, i, ()), ())).holds G →
          (netGo l.length (l'.drop i.toNat) i == 0) = true ∧ G (.exit 0, ((l, t, l', n, n, ()), ())) ∨ (netGo l.length (l'.drop i.toNat) i == 0) = false ∧ G (.ret, ((l, netGo l.length (l'.drop i.toNat) i, l', n, netAt l.length (l'.drop i.toNat) i, ()), ())) := fun G hG => by
        cases hc : netGo l.length (l'.drop i.toNat) i == 0 with
        | true => exact .inl ⟨rfl, hG.1 hc⟩
        | false => exact .inr ⟨rfl, hG.2 hc⟩
      rw [hd] at hG0
      simp only [netGo, netAt] at hG0
      have hce : l'.getD i.toNat ((0 : Int), ((0 : Int), (0 : Int), (0 : Int), (0 : Int)), (0 : Int), List.replicate 16 (0 : Int)) = l'.getD i.toNat conf0 := rfl
      rw [hce]
      generalize l'.getD i.toNat conf0 = c at *
      refine ⟨hr, fun hc => ⟨_, rfl, fun G hG => ?_⟩, fun hc => ⟨fun hs => ⟨_, rfl, fun G hG => ?_⟩, fun hs => ⟨fun hk => ⟨_, rfl, fun G hG => ?_⟩, fun hk => ⟨_, rfl, ⟨?_, ?_, h3, h4⟩, ?_, fun G hG => ?_⟩⟩⟩⟩
      · have := hG0 G hG
        rw [hc] at this
        rcases this with ⟨h5, _⟩ | ⟨_, h5⟩
        · simp only [cond_true] at h5
          rw [bne, h5] at hc
          cases hc
        · exact h5
      · have := hG0 G hG
        rw [hc, hs] at this
        rcases this with ⟨h5, _⟩ | ⟨_, h5⟩
        · cases h5
        · exact h5
      · have := hG0 G hG
        rw [hc, hs, hk] at this
        rcases this with ⟨h5, _⟩ | ⟨_, h5⟩
        · cases h5
        · exact h5
      · show 0 ≤ IntKind.i64.wrap (i + 1); omega
      · show IntKind.i64.wrap (i + 1) ≤ n; omega
      · show (n - IntKind.i64.wrap (i + 1)).toNat < (n - i).toNat; omega
      · have := hG0 G hG
        rw [hc, hs, hk] at this
        simp only [cond_false] at this
        show ((netGo l.length (l'.drop (IntKind.i64.wrap (i + 1)).toNat) (IntKind.i64.wrap (i + 1)) == 0) = true → G (.exit 0, ((l, t, l', n, n, ()), ()))) ∧
          ((netGo l.length (l'.drop (IntKind.i64.wrap (i + 1)).toNat) (IntKind.i64.wrap (i + 1)) == 0) = false → G (.ret, ((l, netGo l.length (l'.drop (IntKind.i64.wrap (i + 1)).toNat) (IntKind.i64.wrap (i + 1)), l', n, netAt l.length (l'.drop (IntKind.i64.wrap (i + 1)).toNat) (IntKind.i64.wrap (i + 1)), ()), ())))
        rw [e]
        rcases this with ⟨h5, h6⟩ | ⟨h5, h6⟩
        · rw [h5]; exact ⟨fun _ => h6, nofun⟩
        · rw [h5]; exact ⟨nofun, fun _ => h6⟩
    · have h' : ¬ i < n := by simpa using h
      have hi : i = n := by omega
      subst hi
      have hd : l'.drop i.toNat = [] := List.drop_eq_nil_of_le (by omega)
      refine ⟨_, rfl, fun G hG => ?_⟩
      have hG' : (netGo l.length (l'.drop i.toNat) i == 0) = true → G (.exit 0, ((l, t, l', i, i, ()), ())) := hG.1
      rw [hd] at hG'
      exact hG' rfl
theorem net_tree : (fun x : List DConf => evFn (mkC tys netG [(0, netD.spec)]) (fnOf Tryd.prog 127) (resL netC.args x) netC.res) =
  (fun x =>
    Tree.br (bif decide ((↑(List.length x) : Int) < (1 : Int)) then true else decide ((↑(List.length x) : Int) > (8 : Int))) (Tree.leaf (4 : Int))
      (Tree.need ((0 : Int) ≤ (0 : Int) ∧ (0 : Int) ≤ (↑(List.length x) : Int) ∧ (↑(List.length x) : Int) = (↑(List.length x) : Int) ∧ (↑(List.length x) : Int) ≤ (8 : Int))
        (Tree.br (netGo (↑(List.length x) : Int) (List.drop (Int.toNat (0 : Int)) x) (0 : Int) == (0 : Int)) (Tree.leaf (0 : Int))
          (Tree.leaf (netGo (↑(List.length x) : Int) (List.drop (Int.toNat (0 : Int)) x) (0 : Int)))))) := by kernel_rfl
theorem net_ok : CtrOK Tryd.prog 127 netC :=
  fun_ok (G := netG) (Λ := [(0, netD.spec)]) tysOK netG_ok mixed (by kernel_rfl) (by kernel_rfl) (by kernel_rfl) (by kernel_rfl) (lp_cons net_loop lp_nil) fun (x : List DConf) hw _ => by
    rw [congrFun net_tree x]
    refine holds_val (d := (0 : Int)) (by kernel_rfl) ?_
    refine ⟨fun _ => trivial, fun h => ⟨⟨by omega, by omega, rfl, ?_⟩, fun _ => trivial, fun _ => trivial⟩⟩
    cases h1 : decide ((x.length : Int) < 1) with
    | true => rw [h1] at h; cases h
    | false => rw [h1] at h; simp at h; omega
end Go.Ev.D
/- A channel with room, used by one goroutine alone: the pieces of code beside it are told by the evaluator. -/
set_option linter.unusedVariables false
set_option linter.unusedSimpArgs false
namespace Go.Ev
open Go.Conc

section
variable {P : Program} {C : Ctx} {b : Frame}

/-- From the code on, in this frame. -/
def CodeTo (P : Program) (b : Frame) (c : Code) (Q : Exit → Act → World → Prop) (a : Act) (w : World) : Prop :=
  ∀ (k : List Item) (cs : List Frame), ∃ e a' w', Q e a' w' ∧ Arrives P (lone (b.at a (.code c :: k)) cs w) b k cs e a' w'
/-- From so many operations of a region on. -/
def RegTo (P : Program) (b : Frame) (ops : Array Oper) (l : List Nat) (Q : Exit → Act → World → Prop) (a : Act) (w : World) : Prop :=
  ∀ (k : List Item) (cs : List Frame), ∃ e a' w', Q e a' w' ∧ Arrives P (lone (b.at a (.inRegion ops l :: k)) cs w) b k cs e a' w'

variable {Q : Exit → Act → World → Prop} {a : Act} {w : World} {ops : Array Oper} {l : List Nat}

theorem CodeTo.of_wp {c : Code} (h : c.wp P Q a w) : CodeTo P b c Q a w := fun k cs => h b k cs
theorem CodeTo.mono {c : Code} {Q' : Exit → Act → World → Prop} (h : CodeTo P b c Q a w) (hq : ∀ e a w, Q e a w → Q' e a w) : CodeTo P b c Q' a w := fun k cs =>
  let ⟨e, a', w', h1, h2⟩ := h k cs; ⟨e, a', w', hq _ _ _ h1, h2⟩
theorem CodeTo.cond {c : Operand} {x y : Code} {t : Bool} (hc : a.eval c = .bool t) (h : CodeTo P b (if t then x else y) Q a w) : CodeTo P b (.cond c x y) Q a w := fun k cs =>
  let ⟨e, a', w', q, r⟩ := h k cs; ⟨e, a', w', q, .of_steps (.one (step_cond hc)) r⟩
theorem CodeTo.region {id : Nat} (h : RegTo P b ops (List.range ops.size) Q a w) : CodeTo P b (.region id ops false) Q a w := fun k cs =>
  let ⟨e, a', w', q, r⟩ := h k cs; ⟨e, a', w', q, .of_steps (.one step_region) r⟩
theorem CodeTo.skip (h : Q .normal a w) : CodeTo P b .skip Q a w := CodeTo.of_wp (wp_skip h)

/-- Codes one behind the other. -/
def LTo (P : Program) (b : Frame) : List Code → (Exit → Act → World → Prop) → Act → World → Prop
  | [], Q, a, w => Q .normal a w
  | c :: l, Q, a, w => CodeTo P b c (Exit.then (LTo P b l Q) Q) a w
def seqs : Code → List Code
  | .seq x y => seqs x ++ seqs y
  | c => [c]

theorem CodeTo.seq {x y : Code} (h : CodeTo P b x (Exit.then (CodeTo P b y Q) Q) a w) : CodeTo P b (.seq x y) Q a w := by
  intro k cs
  obtain ⟨e, a₁, w₁, hq, harr⟩ := h (.code y :: k) cs
  cases e with
  | normal =>
    obtain ⟨e, a₂, w₂, hq', harr'⟩ := hq k cs
    exact ⟨e, a₂, w₂, hq', .of_steps (.one step_seq) (.of_steps harr harr')⟩
  | exit id => exact ⟨_, a₁, w₁, hq, .of_steps (.one step_seq) (.pass (x := .code y) rfl (fun _ _ => .inl (by simp)) harr)⟩
  | goto id => exact ⟨_, a₁, w₁, hq, .of_steps (.one step_seq) (.pass (x := .code y) rfl (fun _ _ => .inl (by simp)) harr)⟩
  | ret => exact ⟨_, a₁, w₁, hq, .of_steps (.one step_seq) (.pass (x := .code y) rfl (fun _ _ => .inl (by simp)) harr)⟩
  | panic c => exact ⟨_, a₁, w₁, hq, .of_steps (.one step_seq) (.pass (x := .code y) rfl (fun _ _ => .inl (by simp)) harr)⟩
  | outgrown => exact ⟨_, a₁, w₁, hq, .of_steps (.one step_seq) (.pass (x := .code y) rfl (fun _ _ => .inl (by simp)) harr)⟩

theorem then_id {c : Code} (h : CodeTo P b c (Exit.then (LTo P b [] Q) Q) a w) : CodeTo P b c Q a w := h.mono fun e a w hq => by cases e <;> exact hq
theorem lto_append : ∀ {l r : List Code} {Q : Exit → Act → World → Prop} {a : Act} {w : World}, LTo P b (l ++ r) Q a w → LTo P b l (Exit.then (LTo P b r Q) Q) a w
  | [], _, _, _, _, h => h
  | c :: l, r, Q, a, w, h => CodeTo.mono (c := c) h fun e a' w' hq => by
      cases e with
      | normal => exact lto_append (l := l) hq
      | _ => exact hq
theorem LTo.mono : ∀ {l : List Code} {Q Q' : Exit → Act → World → Prop} {a : Act} {w : World}, LTo P b l Q a w → (∀ e a w, Q e a w → Q' e a w) → LTo P b l Q' a w
  | [], _, _, _, _, h, hq => hq _ _ _ h
  | c :: l, Q, Q', a, w, h, hq => CodeTo.mono (c := c) h fun e a' w' h' => by
      cases e with
      | normal => exact LTo.mono (l := l) h' hq
      | _ => exact hq _ _ _ h'
theorem CodeTo.seqs : ∀ {c : Code} {Q : Exit → Act → World → Prop} {a : Act} {w : World}, LTo P b (Ev.seqs c) Q a w → CodeTo P b c Q a w
  | .seq x y, Q, a, w, h => CodeTo.seq (CodeTo.mono (CodeTo.seqs (c := x) (lto_append h)) fun e a' w' hq => by
      cases e with
      | normal => exact CodeTo.seqs (c := y) hq
      | _ => exact hq)
  | .skip, _, _, _, h | .region .., _, _, _, h | .cond .., _, _, _, h | .block .., _, _, _, h | .loop _, _, _, _, h | .rangeFunc .., _, _, _, h | .exit _, _, _, _, h | .scope _, _, _, _, h | .label _, _, _, _, h | .goto _, _, _, _, h | .ret, _, _, _, h | .refuse _, _, _, _, h => then_id h

/-- Codes that the evaluator tells. -/
def evL (C : Ctx) : List Code → St → Tree (Ex × St)
  | [], s => .leaf (.normal, s)
  | c :: l, s => (ev C c s).bind fun p => match p.1 with
    | .normal => evL C l p.2
    | e => .leaf (e, p.2)

theorem evL_toD (TOK : TysOK P C.τ) (GC : CtrsOK P C.Γ) (hmix : P.follows .mixedOrders = true) (DK : DsOK P C) {R : Ref} {F : Ex × St → Prop} {rest : List Code} : ∀ (l : List Code) (s : St) (a : Act) (w : World), (∀ c ∈ l, LamOK C c) → (∀ c ∈ l, ∀ t ∈ writes c, t < a.tmps.size) → IsSt R s a w → (evL C l s).holds F →
    (∀ z s' a' w', F (z, s') → IsSt R s' a' w' → a'.tmps.size = a.tmps.size → a'.defers = a.defers → (∀ t, (∀ c ∈ l, t ∉ writes c) → a'.tmps.getD t undef = a.tmps.getD t undef) → match z with
      | .normal => LTo P b rest Q a' w'
      | z => Q z.to a' w') → LTo P b (l ++ rest) Q a w
  | [], s, a, w, _, _, hs, hF, hQ => hQ .normal s a w hF hs rfl rfl (fun _ _ => rfl)
  | c :: l, s, a, w, hl, hsz, hs, hF, hQ => by
    have hF' := holds_bind.1 hF
    have := (ev_ok TOK GC DK hmix c (hl c (by simp))).1 R s a w _ hs (hsz c (by simp)) hF'
    refine (CodeTo.of_wp this).mono ?_
    rintro e a1 w1 ⟨z, s1, rfl, h1, h2, h3⟩
    cases z with
    | normal =>
      exact evL_toD TOK GC hmix DK l s1 a1 w1 (fun c' hc' => hl c' (by simp [hc'])) (fun c' hc' t ht => by rw [h3.size]; exact hsz c' (by simp [hc']) t ht) h2 h1
        (fun z s' a' w' f1 f2 f3 f4 f5 => hQ z s' a' w' f1 f2 (f3.trans h3.size) (f4.trans h3.defers) (fun t ht => (f5 t (fun c' hc' => ht c' (by simp [hc']))).trans (h3.tmps t (ht c (by simp)))))
    | exit id => exact hQ (.exit id) s1 a1 w1 h1 h2 h3.size h3.defers (fun t ht => h3.tmps t (ht c (by simp)))
    | ret => exact hQ .ret s1 a1 w1 h1 h2 h3.size h3.defers (fun t ht => h3.tmps t (ht c (by simp)))
    | die v => exact hQ (.die v) s1 a1 w1 h1 h2 h3.size h3.defers (fun t ht => h3.tmps t (ht c (by simp)))

theorem evL_to (TOK : TysOK P C.τ) (GC : CtrsOK P C.Γ) (hmix : P.follows .mixedOrders = true) {R : Ref} {F : Ex × St → Prop} {rest : List Code} (l : List Code) (s : St) (a : Act) (w : World) (hl : ∀ c ∈ l, LamOK C c) (hsz : ∀ c ∈ l, ∀ t ∈ writes c, t < a.tmps.size) (hs : IsSt R s a w) (hF : (evL C l s).holds F)
    (hQ : ∀ z s' a' w', F (z, s') → IsSt R s' a' w' → a'.tmps.size = a.tmps.size → a'.defers = a.defers → (∀ t, (∀ c ∈ l, t ∉ writes c) → a'.tmps.getD t undef = a.tmps.getD t undef) → match z with
      | .normal => LTo P b rest Q a' w'
      | z => Q z.to a' w') (DK : DsOK P C := by exact dsOK_nil rfl) : LTo P b (l ++ rest) Q a w :=
  evL_toD TOK GC hmix DK l s a w hl hsz hs hF hQ

/-! Regions, operation by operation -/

theorem RegTo.nil (h : Q .normal a w) : RegTo P b ops [] Q a w := fun k cs => ⟨.normal, a, w, h, .one step_region_end⟩
theorem RegTo.value {i : Nat} {o : Oper} {v : Value} {w' : World} (ho : ops[i]? = some o) (hg : o.guard = none) (hr : (execOp a.eval o).run P w = .ok (.value v) w') (h : RegTo P b ops l Q (a.put o.dst v) w') : RegTo P b ops (i :: l) Q a w := by
  intro k cs
  obtain ⟨e, a', w'', hq, harr⟩ := h k cs
  have hw : Region.wanted o (yielded ops a.tmps) = true := by simp [Region.wanted, hg]
  have hgo := stepG_op (P := P) (b := b) (k := k) (cs := cs) (w := w) (rest := l) ho hw
  have hfin : ∀ v, (b.at a (.inRegion ops (i :: l) :: k)).finish v = b.at (a.put o.dst v) (.inRegion ops l :: k) := by
    intro v; rw [Frame.finish_at, ho]; rfl
  refine ⟨e, a', w'', hq, .of_steps (.one (step_lone_go ?_)) harr⟩
  rw [hgo, ← hfin]
  simp [stepG.apply, hr]

theorem RegTo.send {i : Nat} {o : Oper} {x y : Operand} {c cap s r : Nat} {buf : Array Value} {tm : Bool} {v : Value} (ho : ops[i]? = some o) (hg : o.guard = none) (hb : b.kind ≠ .early) (hop : o.op = .send x y) (hx : a.eval x = .chan (some c)) (hy : a.eval y = v)
    (hc : w.heap[c]? = some (.chan cap buf false s r tm)) (hroom : buf.size < cap) (h : RegTo P b ops l Q (a.put o.dst undef) (w.setChan c cap (buf.push v) false (s + 1) r tm)) : RegTo P b ops (i :: l) Q a w := by
  intro k cs
  obtain ⟨e, a', w'', hq, harr⟩ := h k cs
  have hw : Region.wanted o (yielded ops a.tmps) = true := by simp [Region.wanted, hg]
  refine ⟨e, a', w'', hq, .of_steps (.one ?_) harr⟩
  have hst := step_lone_send_room (P := P) (fr := b.at a (.inRegion ops (i :: l) :: k)) (cs := cs) (w := w) (stepG_comm (cases := #[scase c v (.tuple #[])]) (blocking := true) (shape := .send) (w' := w) ho hw hb (by
    unfold execOp
    rw [hop]
    simp only [hx, hy]
    simp [scase])) hc hroom
  rw [lone_eq_solo, hst, Frame.finish_at, ho]
  rfl

theorem step_lone_select_recv {fr : Frame} {cs : List Frame} {w w₁ : World} {es : Array Event} {c cap s r : Nat} {buf : Array Value} {z : Value} {tm : Bool} (h : stepG P true (G fr cs) w = .comm (G fr cs) #[rcase c z] false .select w₁ es) (hc : w₁.heap[c]? = some (.chan cap buf false s r tm)) (hsome : 0 < buf.size) :
    step P (solo (G fr cs) w) = .next (solo (G (fr.finish (.tuple #[goInt 0, .bool true, buf.getD 0 undef])) cs) (w₁.setChan c cap (buf.extract 1 buf.size) false s (r + 1) tm)) := by
  have hp := partners_alone (c := c) true
  rw [step, stepT_solo rfl]
  simp [runT, solo, G, Array.swapAt!, Array.swapAt, h, GStep.es, communicate, ways, rcase, hc, hp, hsome, choose, Sem.run, Question.forced, bind, Sem.bind, pure, Goroutine.finishComm, commResult, World.setChan] at h ⊢

theorem RegTo.select_none {i : Nat} {o : Oper} {c cap s r : Nat} {tm : Bool} {z : Value} (ho : ops[i]? = some o) (hg : o.guard = none) (hb : b.kind ≠ .early) (hex : (execOp a.eval o).run P w = .ok (.comm #[rcase c z] false .select) w)
    (hc : w.heap[c]? = some (.chan cap #[] false s r tm)) (h : RegTo P b ops l Q (a.put o.dst (.tuple #[goInt (-1), .bool false, z])) w) : RegTo P b ops (i :: l) Q a w := by
  intro k cs
  obtain ⟨e, a', w'', hq, harr⟩ := h k cs
  have hw : Region.wanted o (yielded ops a.tmps) = true := by simp [Region.wanted, hg]
  refine ⟨e, a', w'', hq, .of_steps (.one ?_) harr⟩
  have hst := step_lone_select_default (P := P) (fr := b.at a (.inRegion ops (i :: l) :: k)) (cs := cs) (w := w) (stepG_comm (cases := #[rcase c z]) (blocking := false) (shape := .select) (w' := w) ho hw hb hex) hc
  rw [lone_eq_solo, hst, Frame.finish_at, ho]
  rfl
theorem RegTo.select_recv {i : Nat} {o : Oper} {c cap s r : Nat} {tm : Bool} {buf : Array Value} {z : Value} (ho : ops[i]? = some o) (hg : o.guard = none) (hb : b.kind ≠ .early) (hex : (execOp a.eval o).run P w = .ok (.comm #[rcase c z] false .select) w)
    (hc : w.heap[c]? = some (.chan cap buf false s r tm)) (hsome : 0 < buf.size) (h : RegTo P b ops l Q (a.put o.dst (.tuple #[goInt 0, .bool true, buf.getD 0 undef])) (w.setChan c cap (buf.extract 1 buf.size) false s (r + 1) tm)) : RegTo P b ops (i :: l) Q a w := by
  intro k cs
  obtain ⟨e, a', w'', hq, harr⟩ := h k cs
  have hw : Region.wanted o (yielded ops a.tmps) = true := by simp [Region.wanted, hg]
  refine ⟨e, a', w'', hq, .of_steps (.one ?_) harr⟩
  have hst := step_lone_select_recv (P := P) (fr := b.at a (.inRegion ops (i :: l) :: k)) (cs := cs) (w := w) (stepG_comm (cases := #[rcase c z]) (blocking := false) (shape := .select) (w' := w) ho hw hb hex) hc hsome
  rw [lone_eq_solo, hst, Frame.finish_at, ho]
  rfl

/-! The frame of a call -/
theorem calls_of_to {f : FuncId} {fn : Func} {c : Code} {args : Array Value} {R : Ending → World → Prop} (hf : P.funcs[f]? = some fn) (hb : fn.body = some c)
    (h : CodeTo P { (default : Frame) with fn := f, kind := .normal } c (fun e a' w' => (e = .normal ∨ e = .ret) ∧ a'.defers = [] ∧ ∃ v, (results fn a'.tmps).run P w' = .ok v w' ∧ R (.returned v) w') { tmps := args ++ Array.replicate (fn.ntmps - args.size) undef, defers := [] } w) : Calls P f args w R := by
  intro cs
  have henter : Frame.enter P f args .normal = ({ (default : Frame) with fn := f, kind := .normal } : Frame).at { tmps := args ++ Array.replicate (fn.ntmps - args.size) undef, defers := [] } [.code c] := by
    simp [Frame.enter, Frame.at, hf, hb]
  obtain ⟨e, a', w', ⟨he, hd, v, hr, hR⟩, harr⟩ := h [] cs
  rw [← henter] at harr
  rcases he with rfl | rfl
  · exact ⟨.returned v, w', _, hR, Steps.trans harr (.one step_end), rfl, rfl, hd, rfl, fn, hf, hr⟩
  · obtain ⟨todo, hs⟩ := harr
    exact ⟨.returned v, w', _, hR, hs, rfl, rfl, hd, rfl, fn, hf, hr⟩

/-! Another world to start from, but for one block -/
theorem IsSt.frame {R : Ref} {s : St} {a : Act} {w : World} (h : IsSt R s a w) {k : Nat} (hk : k < R.w0.heap.size) (ho : ¬ R.own k) : w.heap[k]? = R.w0.heap[k]? := by
  obtain ⟨M, rfl, _, I, _⟩ := h
  exact I.frame k hk ho
theorem IsSt.grow {R : Ref} {s : St} {a : Act} {w : World} (h : IsSt R s a w) : R.w0.heap.size ≤ w.heap.size := by
  obtain ⟨M, rfl, _, I, _⟩ := h
  exact I.size

theorem rebase {R : Ref} {s : St} {a : Act} {w w' : World} (h : IsSt R s a w) (c : Nat) (hos : w'.os = w.os) (htape : w'.tape = w.tape) (hout : w'.output = w.output) (hsz : w.heap.size ≤ w'.heap.size)
    (hcell : ∀ k, k < w.heap.size → k ≠ c → w'.heap[k]? = w.heap[k]?) (hnew : R.w0.heap.size ≤ c) (hchan : ∀ cs t fr, w.heap[c]? ≠ some (.cells cs t fr)) (hit : ∀ y p, w.heap[c]? ≠ some (.stringIter y p)) (hchan' : ∀ cs t fr, w'.heap[c]? ≠ some (.cells cs t fr)) :
    ∃ R' : Ref, R'.w0 = w' ∧ ¬ R'.own c ∧ IsSt R' s a w' ∧ ∀ s2 a2 w2, IsSt R' s2 a2 w2 → IsSt R s2 a2 w2 := by
  obtain ⟨M, rfl, hb, I, hr⟩ := h
  have hblk' : ∀ b d B, lk b M.bs = some (d, B) → ∀ k, blkOf (M.β b) = some k → k ≠ c := by
    intro b d B hB k hk hkc
    subst hkc
    have hRB := I.boxes b d B hB
    cases B with
    | var g x =>
      obtain ⟨blk, cs, e, h1, h2, _⟩ := hRB
      rw [h1] at hk
      simp [blkOf] at hk
      subst hk
      exact hchan _ _ _ h2
    | row e g xs fz =>
      obtain ⟨cs, ho, _⟩ := hRB
      rcases ho.2 with ⟨hv, _⟩ | ⟨g', cap, cur, hv, _, h2, _⟩
      · rw [hv] at hk; simp [blkOf] at hk
      · rw [hv] at hk
        simp [blkOf] at hk
        subst hk
        exact hchan _ _ _ h2
    | iter y pos =>
      obtain ⟨blk, h1, h2, _⟩ := hRB
      rw [h1] at hk
      simp [blkOf] at hk
      subst hk
      exact hit _ _ h2
  have nocell : ∀ (v : World) (o : Nat), (∀ cs t fr, v.heap[c]? ≠ some (.cells cs t fr)) → v.cell? ⟨c, o, none⟩ = none := by
    intro v o hv
    unfold World.cell?
    split
    · rename_i cc t fr hcc
      exact absurd hcc (hv _ _ _)
    · rfl
  have hk : Keeps M.S M.S M.w w' := by
    intro k o hS
    refine ⟨hS, ?_⟩
    by_cases hkc : k = c
    · subst hkc
      rw [nocell _ o hchan, nocell _ o hchan']
    · exact cell_of_heap (hcell k (I.here k o hS).2 hkc)
  have ref : ∀ {R1 R2 : Ref} {v : Value} {B : Box} {W : World} {S : Stab}, (∀ blk, R1.new blk → blkOf v = some blk → R2.new blk) → RelB R1 W S v B → RelB R2 W S v B := by
    intro R1 R2 v B W S hn hB
    cases B with
    | var g x =>
      obtain ⟨blk, cs, e, h1, h2, h3, h4, h5⟩ := hB
      exact ⟨blk, cs, e, h1, h2, h3, h4, hn blk h5 (by rw [h1]; rfl)⟩
    | row e g xs fz =>
      obtain ⟨cs, h1, h2, h3, h4, h5, h6⟩ := hB
      exact ⟨cs, h1, h2, h3, h4, h5, fun blk hb => ⟨hn blk (h6 blk hb).1 hb, (h6 blk hb).2⟩⟩
    | iter y pos =>
      obtain ⟨blk, h1, h2, h3, h4, h5⟩ := hB
      exact ⟨blk, h1, h2, h3, h4, hn blk h5 (by rw [h1]; rfl)⟩
  have st : Step M { M with w := w' } (fun _ => False) := ⟨hk, fun b d B h _ => ⟨d, B, h, rfl, Box.le_refl B⟩⟩
  refine ⟨⟨w', fun k => R.new k ∧ k ≠ c, M.S, (R.tab.keeps I.old).keeps hk⟩, rfl, fun h => h.2 rfl, ?_, ?_⟩
  · refine ⟨{ M with w := w' }, rfl, hb, ⟨rfl, rfl, rfl, Nat.le_refl _, fun _ _ _ => rfl, Keeps.refl _ _, fun b o hs => ⟨.inl hs, Nat.lt_of_lt_of_le (I.here b o hs).2 hsz⟩, fun b d B hB => ?_, I.sep⟩, fun t => (hr t).step st (fun b hb => hb.elim)⟩
    have hRB := I.boxes b d B hB
    have hm := hRB.move hk (fun blk hblk => hcell blk (hRB.lt blk hblk) (hblk' b d B hB blk hblk)) (fun blk o hblk hs => hs)
    exact ref (fun blk hn hv => .inr ⟨hn, hblk' b d B hB blk hv⟩) hm
  · rintro s2 a2 w2 ⟨M2, rfl, hb2, I2, hr2⟩
    refine ⟨M2, rfl, hb2, ⟨I2.os.trans (hos.trans I.os), I2.tape.trans (htape.trans I.tape), I2.output.trans (hout.trans I.output), Nat.le_trans I.size (Nat.le_trans hsz I2.size), ?_, I.old.trans (hk.trans I2.old), ?_, ?_, I2.sep⟩, hr2⟩
    · intro k h1 h2
      have hkc : k ≠ c := by omega
      have hno : ¬ (R.new k ∧ k ≠ c) := by
        rintro ⟨h3 | h3, _⟩
        · omega
        · exact h2 h3
      have h4 : k < M.w.heap.size := Nat.lt_of_lt_of_le h1 I.size
      exact (I2.frame k (Nat.lt_of_lt_of_le h4 hsz) hno).trans ((hcell k h4 hkc).trans (I.frame k h1 h2))
    · intro b o hs
      obtain ⟨h1, h2⟩ := I2.here b o hs
      refine ⟨?_, h2⟩
      rcases h1 with h1 | h1 | h1
      · exact (I.here b o h1).1
      · exact .inr (.inl (Nat.le_trans (Nat.le_trans I.size hsz) h1))
      · exact .inr h1.1
    · intro b d B hB
      refine ref (fun blk hn _ => ?_) (I2.boxes b d B hB)
      rcases hn with h1 | h1
      · exact .inl (Nat.le_trans (Nat.le_trans I.size hsz) h1)
      · exact h1.1

/-! A call's beginning, and its end -/
theorem start_st {w : World} {S : Stab} {us : List Value} {gs : List GTy} {x : dens gs} (hS : ∀ b o, S b o → b < w.heap.size) (hT : Tab S w) (henc : EncD w S gs x us) (n : Nat) :
    IsSt ⟨w, fun _ => False, S, hT⟩ { tmps := number 0 (resL gs x), boxes := [] } { tmps := us.toArray ++ Array.replicate (n - us.toArray.size) undef, defers := [] } w := by
  let R : Ref := ⟨w, fun _ => False, S, hT⟩
  let M : Mem := ⟨w, S, fun _ => undef, []⟩
  have I : InvM R M := ⟨rfl, rfl, rfl, Nat.le_refl _, fun _ _ _ => rfl, Keeps.refl _ _, fun b o hs => ⟨.inl hs, hS b o hs⟩, fun b d B hb => by simp [M, lk] at hb, fun b c d B d' B' _ hb => by simp [M, lk] at hb⟩
  have hrl := resL_rel (M := M) (gs := gs) (x := x) (us := us) henc
  refine ⟨M, rfl, rfl, I, fun t => ?_⟩
  show RelV M ((lk t (number 0 (resL gs x))).getD .undef) _
  rw [lk_number]
  simp only [Nat.zero_le, if_true, Nat.sub_zero]
  cases hv : (resL gs x)[t]? with
  | none => simp [RelV]
  | some v =>
    obtain ⟨u, h1, h2⟩ := hrl.get t hv
    have hlt := (List.getElem?_eq_some_iff.1 h1).1
    have : (us.toArray ++ Array.replicate (n - us.toArray.size) undef).getD t undef = u := by
      simp only [Array.getD_eq_getD_getElem?]
      rw [Array.getElem?_append_left (by simpa using hlt)]
      simp [h1]
    rw [this]
    simpa using h2

theorem finish_st (TOK : TysOK P C.τ) {w w' : World} {S : Stab} {hT : Tab S w} {s' : St} {a' : Act} {fn : Func} {res : List GTy} {y : dens res} (hs : IsSt ⟨w, fun _ => False, S, hT⟩ s' a' w') (hF : (evRes C fn res (.normal, s')).holds (fun z => z = y)) :
    ∃ v, (results fn a'.tmps).run P w' = .ok v w' ∧ ∃ v', Ending.returned v = Ending.returned v' ∧ Grows w w' ∧ ∃ N : Stab, (∀ b o, N b o → w.heap.size ≤ b ∧ b < w'.heap.size) ∧ RelRes w' (fun b o => S b o ∨ N b o) res y v' := by
  obtain ⟨M', rfl, hb', I', hr'⟩ := hs
  simp only [evRes] at hF
  split at hF
  · exact hF.elim
  rename_i aas has
  split at hF
  · exact hF.elim
  rename_i z ws htk
  simp only [Tree.holds] at hF
  subst hF
  obtain ⟨us', q1, q2⟩ := resArgs_sound TOK I' hb' hr' has
  obtain ⟨_, S', fz, henc'⟩ := takes_sound I' q2 htk
  refine ⟨_, results_run q1, _, rfl, ⟨I'.os, I'.tape, I'.output, I'.size, fun k hk => I'.frame k hk id⟩, fun b o => S' b o ∧ w.heap.size ≤ b, fun b o hN => ⟨hN.2, (fz.inv.here b o hN.1).2⟩, us', ?_, by rcases us' with _ | ⟨u, _ | ⟨v, us⟩⟩ <;> rfl⟩
  refine henc'.keeps (fun b o hs => ⟨?_, rfl⟩)
  rcases (fz.inv.here b o hs).1 with h3 | h3 | h3
  · exact .inl h3
  · exact .inr ⟨hs, h3⟩
  · exact h3.elim

/-! Slots that nothing is known of -/
theorem IsSt.put_undef {R : Ref} {s : St} {d : Nat} {v : Value} (h : IsSt R s a w) (hd : s.look d = .undef) (hsz : d < a.tmps.size) : IsSt R s (a.put (some d) v) w := by
  obtain ⟨M, hM, hb, I, hr⟩ := h
  refine ⟨M, hM, hb, I, fun t => ?_⟩
  rw [put_getD a (some d) v t (fun k hk => by cases hk; exact hsz)]
  split
  · rename_i ht
    cases ht
    rw [hd]; simp [RelV]
  · exact hr t
theorem IsSt.put_known {R : Ref} {s : St} {d : Nat} {v : Value} {av : AV} (h : IsSt R s a w) (hv : ∀ M, RelV M av v) (hsz : d < a.tmps.size) : IsSt R (s.put d av) (a.put (some d) v) w := by
  obtain ⟨M, hM, hb, I, hr⟩ := h
  refine ⟨M, hM, hb, I, fun t => ?_⟩
  rw [put_getD a (some d) v t (fun k hk => by cases hk; exact hsz), look_put]
  by_cases ht : t = d
  · subst ht
    simp [hv]
  · rw [if_neg ht, if_neg (fun e => ht (by cases e; rfl))]
    exact hr t
theorem IsSt.grows {R : Ref} {s : St} {w' : World} (h : IsSt R s a w) (g : Grows w w') : IsSt R s a w' := by
  obtain ⟨M, rfl, hb, I, hr⟩ := h
  obtain ⟨I2, st⟩ := I.grow g
  exact ⟨{ M with w := w' }, rfl, hb, I2, fun t => (hr t).steps st⟩
theorem put_same {d t : Nat} {v : Value} (hsz : d < a.tmps.size) (h : t ≠ d) : (a.put (some d) v).tmps.getD t undef = a.tmps.getD t undef := by
  rw [put_getD a (some d) v t (fun k hk => by cases hk; exact hsz), if_neg (fun e => h (by cases e; rfl))]
theorem put_at {d : Nat} {v : Value} (hsz : d < a.tmps.size) : (a.put (some d) v).tmps.getD d undef = v := by
  rw [put_getD a (some d) v d (fun k hk => by cases hk; exact hsz), if_pos rfl]

theorem RegTo.yields {i : Nat} {o : Oper} {K : Value → World → Prop} (ho : ops[i]? = some o) (hg : o.guard = none) (h : Yields P a.eval o w K) (hk : ∀ v w', K v w' → RegTo P b ops l Q (a.put o.dst v) w') : RegTo P b ops (i :: l) Q a w := by
  intro k cs
  have hw : Region.wanted o (yielded ops a.tmps) = true := by simp [Region.wanted, hg]
  have hgo := stepG_op (P := P) (b := b) (k := k) (cs := cs) (w := w) (rest := l) ho hw
  have hfin : ∀ v, (b.at a (.inRegion ops (i :: l) :: k)).finish v = b.at (a.put o.dst v) (.inRegion ops l :: k) := by
    intro v; rw [Frame.finish_at, ho]; rfl
  unfold Yields at h
  split at h
  · rename_i v w' hr
    obtain ⟨e, a', w'', hq, harr⟩ := hk v w' h k cs
    refine ⟨e, a', w'', hq, .of_steps (.one (step_lone_go ?_)) harr⟩
    rw [hgo, ← hfin]; simp [stepG.apply, hr]
  · rename_i w' hr
    obtain ⟨e, a', w'', hq, harr⟩ := hk undef w' h k cs
    refine ⟨e, a', w'', hq, .of_steps (.one (step_lone_go ?_)) harr⟩
    rw [hgo, ← hfin]; simp [stepG.apply, hr]
  · rename_i f args w' hr
    obtain ⟨e, w'', fr, ⟨v, rfl, hv⟩, hsteps, _, hleave⟩ := h (b.at a (.inRegion ops (i :: l) :: k) :: cs)
    have henter : step P (lone (b.at a (.inRegion ops (i :: l) :: k)) cs w) = .next (lone (Frame.enter P f args .normal) (b.at a (.inRegion ops (i :: l) :: k) :: cs) w') :=
      step_lone_go (by rw [hgo]; simp [stepG.apply, hr, Frame.at])
    obtain ⟨e, a', w₃, hq, harr⟩ := hk v w'' hv k cs
    refine ⟨e, a', w₃, hq, .of_steps (.head henter (hsteps.trans (.one ?_))) harr⟩
    rw [← hfin]; exact step_leave_returned hleave
  · exact h.elim

theorem RegTo.op (TOK : TysOK P C.τ) (GOK : CtrsOK P C.Γ) {R : Ref} {s : St} {i : Nat} {o : Oper} {e : Eff} (ho : ops[i]? = some o) (hg : o.guard = none) (hs : IsSt R s a w) (he : opEff C.τ C.Γ (o.dst.getD 0) o (s.args o) = some e) (hn : e.ok) (hd : ∀ k, o.dst = some k → k < a.tmps.size)
    (hnext : ∀ a' w', IsSt R (s.after o e) a' w' → Apart (fun t => o.dst = some t) s a (s.after o e) a' → RegTo P b ops l Q a' w') : RegTo P b ops (i :: l) Q a w := by
  obtain ⟨M, hM, hb, I, hr⟩ := hs
  rw [args_eq s o hb] at he
  have := opEff_sound TOK GOK I (eval_func a) (opRel_of (R.tab.keeps I.old) hr o) he hn
  rw [hM] at this
  refine RegTo.yields ho hg this (fun v w' hv => ?_)
  obtain ⟨h1, h2⟩ := IsSt.after hM hb hr hd hv
  exact hnext _ _ h1 h2

/-- A piece, read back: what is answered, or the slots of a shape. -/
def pieceT (C : Ctx) (fn : Func) (res : List GTy) (ts : List (Nat × Sh)) (bs : List (Nat × BSh)) (l : List Code) (s : St) : Tree (Option (dens res) × Option (ShT ts × ShB bs)) :=
  (evL C l s).bind fun p => match p.1 with
    | .ret => (evRes C fn res (.normal, p.2)).bind fun y => .leaf (some y, none)
    | .normal => match restrict { prom := [], keep := ts.map (·.1), boxes := bs.map (·.1), sum := fun _ => .stuck } p.2 with
      | none => .stuck
      | some s' => .leaf (none, unS ts bs s')
    | .exit _ => .stuck
    | .die _ => .stuck

theorem piece_to (TOK : TysOK P C.τ) (GC : CtrsOK P C.Γ) (hmix : P.follows .mixedOrders = true) {R : Ref} {fn : Func} {res : List GTy} {ts : List (Nat × Sh)} {bs : List (Nat × BSh)} {rest l : List Code} {s : St} {G : Option (dens res) × Option (ShT ts × ShB bs) → Prop} (hl : ∀ c ∈ l, LamOK C c) (hsz : ∀ c ∈ l, ∀ t ∈ writes c, t < a.tmps.size) (hs : IsSt R s a w) (hG : (pieceT C fn res ts bs l s).holds G)
    (hret : ∀ y s' a' w', G (some y, none) → IsSt R s' a' w' → a'.defers = a.defers → (evRes C fn res (.normal, s')).holds (fun z => z = y) → Q .ret a' w')
    (hgo : ∀ x a' w', G (none, some x) → IsSt R (mkS ts bs x) a' w' → a'.tmps.size = a.tmps.size → a'.defers = a.defers → (∀ t, (∀ c ∈ l, t ∉ writes c) → a'.tmps.getD t undef = a.tmps.getD t undef) → LTo P b rest Q a' w')
    (hbad : ¬ G (none, none)) (DK : DsOK P C := by exact dsOK_nil rfl) : LTo P b (l ++ rest) Q a w := by
  refine evL_to (DK := DK) TOK GC hmix l s a w hl hsz hs (holds_bind.1 hG) ?_
  intro z s' a' w' hF h1 h2 h3 h4
  cases z with
  | normal =>
    simp only at hF
    split at hF
    · exact hF.elim
    · rename_i s'' hr
      have h5 := h1.restr (restrict_spec hr)
      simp only [Tree.holds] at hF
      cases hu : unS ts bs s'' with
      | none => rw [hu] at hF; exact absurd hF hbad
      | some x =>
        rw [hu] at hF
        have := unS_eq hu
        subst this
        exact hgo x a' w' hF h5 h2 h3 h4
  | ret =>
    have hF' := holds_bind.1 hF
    have key : ∀ (t : Tree (dens res)), t = evRes C fn res (.normal, s') → t.holds (fun y => (Tree.leaf (some y, none)).holds G) → Q .ret a' w' := by
      intro t ht hh
      cases t with
      | leaf y => exact hret y s' a' w' hh h1 h3 (by rw [← ht]; rfl)
      | stuck => exact hh.elim
      | br c t e =>
        exfalso
        simp only [evRes] at ht
        split at ht
        · cases ht
        · split at ht <;> cases ht
      | need p t =>
        exfalso
        simp only [evRes] at ht
        split at ht
        · cases ht
        · split at ht <;> cases ht
    exact key _ rfl hF'
  | exit id => exact hF.elim
  | die v => exact hF.elim

/-! A channel kept beside the evaluator -/
theorem IsSt.bool {R : Ref} {s : St} {d : Nat} {t : Bool} (h : IsSt R s a w) (hl : s.look d = .val .bool t) : a.eval (.tmp d) = .bool t := by
  obtain ⟨M, _, _, _, hr⟩ := h
  have := hr d
  rw [hl] at this
  obtain ⟨cs, h1, h2⟩ := this
  have h3 : cs = [.bool t] := h1
  subst h3
  exact h2

/-- In these slots this is known; slot d holds a channel, and what the channel is. -/
structure Hd (R0 : Ref) (c : Nat) (obj : Obj) (n d : Nat) (s : St) (a : Act) (w : World) : Prop where
  new : R0.w0.heap.size ≤ c
  size : a.tmps.size = n
  defers : a.defers = []
  slot : a.tmps.getD d undef = .chan (some c)
  st : ∃ R : Ref, R.w0.heap[c]? = some obj ∧ ¬ R.own c ∧ IsSt R s a w ∧ ∀ s2 a2 w2, IsSt R s2 a2 w2 → IsSt R0 s2 a2 w2

variable {R0 : Ref} {c : Nat} {obj : Obj} {n d : Nat} {s : St}

theorem Hd.heap (h : Hd R0 c obj n d s a w) : w.heap[c]? = some obj := by
  obtain ⟨R, h1, h2, h3, _⟩ := h.st
  rw [h3.frame (Array.getElem?_eq_some_iff.1 h1).1 h2]
  exact h1
theorem Hd.old (h : Hd R0 c obj n d s a w) : IsSt R0 s a w := by
  obtain ⟨R, _, _, h3, h4⟩ := h.st
  exact h4 _ _ _ h3
theorem Hd.restr {L : LoopSpec} {s' : St} (h : Hd R0 c obj n d s a w) (hr : restrict L s = some s') : Hd R0 c obj n d s' a w := by
  obtain ⟨R, h1, h2, h3, h4⟩ := h.st
  exact ⟨h.new, h.size, h.defers, h.slot, R, h1, h2, h3.restr (restrict_spec hr), h4⟩
theorem Hd.undef {k : Nat} {v : Value} (h : Hd R0 c obj n d s a w) (hl : s.look k = .undef) (hk : k < n) (hd : d ≠ k) : Hd R0 c obj n d s (a.put (some k) v) w := by
  obtain ⟨R, h1, h2, h3, h4⟩ := h.st
  have hk' : k < a.tmps.size := by rw [h.size]; exact hk
  exact ⟨h.new, (put_size _ _ _).trans h.size, (put_defers' _ _ _).trans h.defers, (put_same hk' hd).trans h.slot, R, h1, h2, h3.put_undef hl hk', h4⟩
theorem Hd.known {k : Nat} {v : Value} {av : AV} (h : Hd R0 c obj n d s a w) (hv : ∀ M, RelV M av v) (hk : k < n) (hd : d ≠ k) : Hd R0 c obj n d (s.put k av) (a.put (some k) v) w := by
  obtain ⟨R, h1, h2, h3, h4⟩ := h.st
  have hk' : k < a.tmps.size := by rw [h.size]; exact hk
  exact ⟨h.new, (put_size _ _ _).trans h.size, (put_defers' _ _ _).trans h.defers, (put_same hk' hd).trans h.slot, R, h1, h2, h3.put_known hv hk', h4⟩
theorem Hd.set {cap cap' sn rn sn' rn' : Nat} {buf buf' : Array Value} {cl cl' tm tm' : Bool} (h : Hd R0 c (.chan cap buf cl sn rn tm) n d s a w) : Hd R0 c (.chan cap' buf' cl' sn' rn' tm') n d s a (w.setChan c cap' buf' cl' sn' rn' tm') := by
  have hc := h.heap
  have hlt : c < w.heap.size := (Array.getElem?_eq_some_iff.1 hc).1
  have hs := heap_setChan w c cap' buf' cl' sn' rn' tm' hlt
  obtain ⟨R', h1, h2, h3, h4⟩ := rebase (w' := w.setChan c cap' buf' cl' sn' rn' tm') h.old c rfl rfl rfl (by rw [size_setChan]; exact Nat.le_refl _) (fun k _ hk => by simp [World.setChan, Array.getElem?_setIfInBounds_ne (Ne.symm hk)]) h.new (fun _ _ _ => by rw [hc]; intro e; cases e) (fun _ _ => by rw [hc]; intro e; cases e) (fun _ _ _ => by rw [hs]; intro e; cases e)
  exact ⟨h.new, h.size, h.defers, h.slot, R', by rw [h1]; exact hs, h2, h3, h4⟩
theorem at_make {cap : Nat} {buf : Array Value} {cl tm : Bool} {sn rn : Nat} (h : IsSt R0 s a (w.alloc (.chan cap buf cl sn rn tm))) (hw : R0.w0.heap.size ≤ w.heap.size) (hs : a.tmps.size = n) (hd : a.defers = []) (hc : a.tmps.getD d undef = .chan (some w.heap.size)) :
    Hd R0 w.heap.size (.chan cap buf cl sn rn tm) n d s a (w.alloc (.chan cap buf cl sn rn tm)) := by
  have hn := heap_alloc_new w (.chan cap buf cl sn rn tm)
  obtain ⟨R', h1, h2, h3, h4⟩ := rebase (w' := w.alloc (.chan cap buf cl sn rn tm)) h w.heap.size rfl rfl rfl (Nat.le_refl _) (fun _ _ _ => rfl) hw (fun _ _ _ => by rw [hn]; intro e; cases e) (fun _ _ => by rw [hn]; intro e; cases e) (fun _ _ _ => by rw [hn]; intro e; cases e)
  exact ⟨hw, hs, hd, hc, R', by rw [h1]; exact hn, h2, h3, h4⟩
theorem Hd.op (TOK : TysOK P C.τ) (GOK : CtrsOK P C.Γ) {i : Nat} {o : Oper} {e : Eff} (h : Hd R0 c obj n d s a w) (ho : ops[i]? = some o) (hg : o.guard = none) (he : opEff C.τ C.Γ (o.dst.getD 0) o (s.args o) = some e) (hn : e.ok) (hk : ∀ k, o.dst = some k → k < n ∧ k ≠ d)
    (hnext : ∀ a' w', Hd R0 c obj n d (s.after o e) a' w' → (∀ t, o.dst ≠ some t → a'.tmps.getD t Go.undef = a.tmps.getD t Go.undef) → RegTo P b ops l Q a' w') : RegTo P b ops (i :: l) Q a w := by
  obtain ⟨R, h1, h2, h3, h4⟩ := h.st
  refine RegTo.op TOK GOK ho hg h3 he hn (fun k hk' => by rw [h.size]; exact (hk k hk').1) fun a' w' h5 h6 => hnext a' w' ⟨h.new, h6.size.trans h.size, h6.defers.trans h.defers, (h6.tmps d (fun hd => (hk d hd).2 rfl)).trans h.slot, R, h1, h2, h5, h4⟩ (fun t ht => h6.tmps t ht)
theorem Hd.move {i k : Nat} {o : Oper} (h : Hd R0 c obj n d s a w) (ho : ops[i]? = some o) (hg : o.guard = none) (hop : o.op = .move (.tmp d)) (hdst : o.dst = some k) (hl : s.look k = .undef) (hk : k < n) (hd : d ≠ k)
    (hnext : ∀ a', Hd R0 c obj n d s a' w → a'.tmps.getD k Go.undef = .chan (some c) → RegTo P b ops l Q a' w) : RegTo P b ops (i :: l) Q a w := by
  refine RegTo.value (v := .chan (some c)) (w' := w) ho hg ?_ ?_
  · have he : a.eval (.tmp d) = .chan (some c) := h.slot
    unfold execOp
    rw [hop]
    simp only [he]
    rfl
  · rw [hdst]
    exact hnext _ (h.undef hl hk hd) (put_at (by rw [h.size]; exact hk))
theorem Hd.send {i k cap sn rn : Nat} {buf : Array Value} {tm : Bool} {y : Operand} {o : Oper} (h : Hd R0 c (.chan cap buf false sn rn tm) n d s a w) (ho : ops[i]? = some o) (hg : o.guard = none) (hb : b.kind ≠ .early) (hop : o.op = .send (.tmp k) y) (hdst : o.dst = none) (hx : a.tmps.getD k Go.undef = .chan (some c)) (hroom : buf.size < cap)
    (hnext : ∀ v w', Hd R0 c (.chan cap (buf.push v) false (sn + 1) rn tm) n d s a w' → RegTo P b ops l Q a w') : RegTo P b ops (i :: l) Q a w := by
  refine RegTo.send ho hg hb hop hx rfl h.heap hroom ?_
  rw [hdst]
  exact hnext _ _ h.set
theorem Hd.select {i k x et cap sn rn : Nat} {buf : Array Value} {tm : Bool} {z : Value} {o : Oper} (h : Hd R0 c (.chan cap buf false sn rn tm) n d s a w) (ho : ops[i]? = some o) (hg : o.guard = none) (hb : b.kind ≠ .early) (hop : o.op = .select #[⟨.tmp x, none, et⟩] false) (hdst : o.dst = some k) (hx : a.tmps.getD x Go.undef = .chan (some c))
    (hz : (zeroValue et).run P w = .ok z w) (hk : k < n) (hd : d ≠ k)
    (hnext : ∀ buf' rn' a' w', Hd R0 c (.chan cap buf' false sn rn' tm) n d (s.put k (.tup [.val (.int .i64) (if buf.isEmpty = true then (-1 : Int) else 0), .undef, .undef])) a' w' → RegTo P b ops l Q a' w') : RegTo P b ops (i :: l) Q a w := by
  have hex : (execOp a.eval o).run P w = .ok (.comm #[rcase c z] false .select) w := by
    have he : a.eval (.tmp x) = .chan (some c) := hx
    unfold execOp
    rw [hop]
    simp [he, hz, rcase]
  have rel : ∀ (m : Int) (e1 e2 : Value) (M : Mem), IntKind.i64.has m → RelV M (.tup [.val (.int .i64) m, .undef, .undef]) (.tuple #[.int .i64 m, e1, e2]) := by
    intro m e1 e2 M hm
    exact ⟨_, rfl, ⟨[.int .i64 m], ⟨rfl, hm⟩, rfl⟩, trivial, trivial, trivial⟩
  by_cases he : buf = #[]
  · subst he
    refine RegTo.select_none ho hg hb hex h.heap ?_
    rw [hdst]
    exact hnext #[] rn _ _ (h.known (fun M => rel (-1) _ _ M (by simp [IntKind.has, IntKind.min, IntKind.max, IntKind.bits, IntKind.signed])) hk hd)
  · have hs : 0 < buf.size := Nat.pos_of_ne_zero (fun e => he (Array.size_eq_zero_iff.1 e))
    refine RegTo.select_recv ho hg hb hex h.heap hs ?_
    rw [hdst]
    have hm : (if buf.isEmpty = true then (-1 : Int) else 0) = 0 := by simp [he]
    rw [hm] at hnext
    exact hnext _ _ _ _ (Hd.known h.set (fun M => rel 0 _ _ M (by simp [IntKind.has, IntKind.min, IntKind.max, IntKind.bits, IntKind.signed])) hk hd)
def calmL (n d : Nat) (cs : List Code) : Bool := cs.all fun x => (loopsOf x).isEmpty && (writes x).all fun t => Nat.blt t n && !(Nat.beq t d)
theorem calmL_lam {cs : List Code} (h : calmL n d cs = true) : ∀ x ∈ cs, LamOK C x := fun x hx => by
  unfold calmL at h
  rw [List.all_eq_true] at h
  have h1 := h x hx
  rw [Bool.and_eq_true] at h1
  have h2 : loopsOf x = [] := by simpa using h1.1
  exact lam_of x fun id body hm => by rw [h2] at hm; cases hm
theorem calmL_wr {cs : List Code} (h : calmL n d cs = true) : ∀ x ∈ cs, ∀ t ∈ writes x, t < n ∧ t ≠ d := fun x hx t ht => by
  unfold calmL at h
  rw [List.all_eq_true] at h
  have h1 := h x hx
  rw [Bool.and_eq_true, List.all_eq_true] at h1
  have h2 := h1.2 t ht
  rw [Bool.and_eq_true, Nat.blt_eq] at h2
  exact ⟨h2.1, fun e => by subst e; simp at h2⟩
theorem Hd.piece (TOK : TysOK P C.τ) (GC : CtrsOK P C.Γ) (hmix : P.follows .mixedOrders = true) {fn : Func} {res : List GTy} {ts : List (Nat × Sh)} {bs : List (Nat × BSh)} {rest cs : List Code} {G : Option (dens res) × Option (ShT ts × ShB bs) → Prop} (h : Hd R0 c obj n d s a w) (hcalm : calmL n d cs = true) (hG : (pieceT C fn res ts bs cs s).holds G)
    (hret : ∀ y s' a' w', G (some y, none) → IsSt R0 s' a' w' → a'.defers = [] → (evRes C fn res (.normal, s')).holds (fun z => z = y) → Q .ret a' w')
    (hgo : ∀ x a' w', G (none, some x) → Hd R0 c obj n d (mkS ts bs x) a' w' → LTo P b rest Q a' w')
    (hbad : ¬ G (none, none)) (DK : DsOK P C := by exact dsOK_nil rfl) : LTo P b (cs ++ rest) Q a w := by
  obtain ⟨R, h1, h2, h3, h4⟩ := h.st
  have hsz := calmL_wr hcalm
  refine piece_to (DK := DK) TOK GC hmix (calmL_lam hcalm) (fun x hx t ht => by rw [h.size]; exact (hsz x hx t ht).1) h3 hG ?_ ?_ hbad
  · intro y s' a' w' k1 k2 k3 k4
    exact hret y s' a' w' k1 (h4 _ _ _ k2) (k3.trans h.defers) k4
  · intro x a' w' k1 k2 k3 k4 k5
    exact hgo x a' w' k1 ⟨h.new, k3.trans h.size, k4.trans h.defers, (k5 d (fun x hx ht => (hsz x hx d ht).2 rfl)).trans h.slot, R, h1, h2, k2, h4⟩
theorem dst_ok {o : Oper} {m n d : Nat} (h : o.dst = some m) (hm : (Nat.blt m n && !(Nat.beq m d)) = true) : ∀ k, o.dst = some k → k < n ∧ k ≠ d := by
  intro k hk
  rw [h] at hk
  have e : m = k := Option.some.inj hk
  subst e
  rw [Bool.and_eq_true, Nat.blt_eq] at hm
  exact ⟨hm.1, fun e => by subst e; simp at hm⟩

/-- A call is at its end, and this is what it answers. -/
def finQ (C : Ctx) (fn : Func) (res : List GTy) (R0 : Ref) (y : dens res) (e : Exit) (a' : Act) (w' : World) : Prop :=
  (e = .normal ∨ e = .ret) ∧ a'.defers = [] ∧ ∃ s', IsSt R0 s' a' w' ∧ (evRes C fn res (.normal, s')).holds (fun z => z = y)

theorem ctr_of_to (TOK : TysOK P C.τ) {f : Nat} {k : Ctr} (hf : (P.funcs[f]?).isSome = true) (hname : ((fnOf P f).name == "runtime.NumGoroutine") = false) (hbody : (fnOf P f).body.isSome = true) (hn : ∀ x, (resL k.args x).length ≤ (fnOf P f).ntmps)
    (h : ∀ (R0 : Ref) (b : Frame) (x : dens k.args) (a : Act), b.kind ≠ .early → wtD k.args x → (∀ p, k.pre = some p → p x) → IsSt R0 { tmps := number 0 (resL k.args x), boxes := [] } a R0.w0 → a.tmps.size = (fnOf P f).ntmps → a.defers = [] →
      LTo P b (seqs (bodyOf (fnOf P f))) (finQ C (fnOf P f) k.res R0 (k.fn x)) a R0.w0) : CtrOK P f k := by
  refine ⟨⟨_, fnOf_eq hf, by rw [bodyOf_eq hbody]; rfl, hname⟩, fun w S us x hS hT henc hpre => ?_⟩
  have h0 := start_st (n := (fnOf P f).ntmps) hS hT henc
  have hlen := (resL_rel (M := ⟨w, S, fun _ => undef, []⟩) henc).length
  have hx := hn x
  refine calls_of_to (fnOf_eq hf) (bodyOf_eq hbody) ?_
  refine CodeTo.mono (CodeTo.seqs (h ⟨w, fun _ => False, S, hT⟩ _ x _ (fun e => by cases e) henc.wt hpre h0 (by simp; omega) rfl)) ?_
  rintro e a' w' ⟨he, hd, s', h1, h2⟩
  exact ⟨he, hd, finish_st TOK h1 h2⟩
end
end Go.Ev
