/- Links read: the program's loop and the document's machine. -/
import Derived.Lib.IndexMore
import Derived.Test.YtohodbfoeejbjaaDoorTextConfBack8

set_option linter.unusedVariables false
set_option linter.unusedSimpArgs false
namespace Go.Ev
def sndP (c : DCosts) : Prop := soundF c = true ∧ c.2.length = 16
def zeroC : DCosts := (0, List.replicate 16 0)
theorem zero_sound : sndP zeroC := ⟨by decide +kernel, by decide⟩
theorem set_sound {c : DCosts} {n w : Int} (h : sndP c) : sndP (csetF c n w).1 := ⟨(sound_set h.2 h.1).1, (sound_set h.2 h.1).2.1⟩
/-! Cut at a letter -/
theorem index_at {b : UInt8} : ∀ (p q : List UInt8), b ∉ p → Lib.index (p ++ b :: q) [b] = (p.length : Int)
  | [], q, _ => by
    show Lib.index (b :: q) [b] = 0
    unfold Lib.index
    rw [if_pos (by simp [List.isPrefixOf])]
  | a :: p, q, h => by
    have hne : ¬ b = a := fun e => h (by simp [e])
    have ih := index_at p q (fun hm => h (List.mem_cons_of_mem _ hm))
    show Lib.index (a :: (p ++ b :: q)) [b] = _
    unfold Lib.index
    rw [if_neg (by simp [List.isPrefixOf, hne]), ih, if_neg (by simp)]
    simp
theorem cut_at {b : UInt8} {p q : List UInt8} (h : b ∉ p) : Lib.cut (p ++ b :: q) [b] = (p, q, true) := by
  unfold Lib.cut
  rw [index_at p q h, if_pos (Int.natCast_nonneg _)]
  simp only [Int.toNat_natCast, List.take_left, List.length_cons, List.length_nil]
  rw [show p.length + (0 + 1) = (p ++ [b]).length by simp, show p ++ b :: q = (p ++ [b]) ++ q by simp, List.drop_left]
theorem cut_less {s t : List UInt8} (ht : t ≠ []) (h : (Lib.cut s t).2.2 = true) : (Lib.cut s t).2.1.length < s.length := by
  unfold Lib.cut at h ⊢
  split
  · rename_i h0
    have hr := Lib.index_room s t h0
    have h1 : 0 < t.length := List.length_pos_iff.2 ht
    simp only [List.length_drop]
    omega
  · rename_i h0; rw [if_neg h0] at h; cases h
/-! The program's loop -/
abbrev CpS := (Int × List UInt8 × Unit) × DCosts × DCosts × Unit
def cpW (r : List UInt8) : List UInt8 := (Lib.cut r [32]).1
def cpBad (r : List UInt8) : Bool := bif !(Lib.cut r [32]).2.2 then true else cpW r == []
def cpSet (r : List UInt8) (c : DCosts) : DCosts × Int := csetF c ((byteAt (cpW r) 0 : Int) - 97) (puF ((cpW r).drop 1)).1
def cpStp : CpS → Ex × CpS
  | ((e, r, _), c2, c4, _) => bif !(r == []) then
      bif cpBad r then (.ret, ((3, r, ()), zeroC, c4, ()))
      else bif (puF ((cpW r).drop 1)).2 then (.ret, ((3, r, ()), zeroC, c4, ()))
      else bif (cpSet r c4).2 != (0 : Int) then (.ret, ((3, r, ()), zeroC, c4, ()))
      else (.normal, ((e, (Lib.cut r [32]).2.1, ()), c2, (cpSet r c4).1, ()))
    else (.exit 0, ((e, r, ()), c2, c4, ()))
def cpMu (x : CpS) : Nat := x.1.2.1.length
def cpPre (x : CpS) : Prop := x.1.2.1.length ≤ 1000
theorem cpStp_ends (x : CpS) : (cpStp x).1 = .normal ∨ (cpStp x).1 = .exit 0 ∨ (cpStp x).1 = .ret := by
  obtain ⟨⟨e, r, ⟨⟩⟩, c2, c4, ⟨⟩⟩ := x
  unfold cpStp
  simp only
  cases !(r == []) <;> cases cpBad r <;> cases (puF ((cpW r).drop 1)).2 <;> cases (cpSet r c4).2 != (0 : Int) <;> simp
theorem cpBad_no {r : List UInt8} (h : cpBad r = false) : (Lib.cut r [32]).2.2 = true ∧ cpW r ≠ [] := by
  unfold cpBad at h
  cases hc : (Lib.cut r [32]).2.2 with
  | false => rw [hc] at h; cases h
  | true =>
    rw [hc] at h
    refine ⟨rfl, fun he => ?_⟩
    rw [he] at h
    cases h
theorem cp_go {x : CpS} (hp : cpPre x) (h : (cpStp x).1 = .normal) : cpPre (cpStp x).2 ∧ cpMu (cpStp x).2 < cpMu x := by
  obtain ⟨⟨e, r, ⟨⟩⟩, c2, c4, ⟨⟩⟩ := x
  have hp' : r.length ≤ 1000 := hp
  unfold cpStp at h ⊢
  simp only at h ⊢
  cases hb : !(r == []) with
  | false => rw [hb] at h; cases h
  | true =>
    rw [hb] at h
    simp only [cond_true] at h ⊢
    cases hk : cpBad r with
    | true => rw [hk] at h; cases h
    | false =>
      rw [hk] at h
      simp only [cond_false] at h ⊢
      cases h2 : (puF ((cpW r).drop 1)).2 with
      | true => rw [h2] at h; cases h
      | false =>
        rw [h2] at h
        simp only [cond_false] at h ⊢
        cases h3 : (cpSet r c4).2 != (0 : Int) with
        | true => rw [h3] at h; cases h
        | false =>
          have := cut_less (s := r) (t := [32]) (by simp) (cpBad_no hk).1
          refine ⟨?_, ?_⟩
          · show (Lib.cut r [32]).2.1.length ≤ 1000; omega
          · show (Lib.cut r [32]).2.1.length < r.length; omega
theorem cp_inv : ∀ (n : Nat) (x : CpS), sndP x.2.2.1 → cpMu x < n → ((isRet (runF cpStp n x).1 = true → (runF cpStp n x).2.2.1 = zeroC ∧ (runF cpStp n x).2.1.1 = 3) ∧ sndP (runF cpStp n x).2.2.2.1) :=
  fun n x hx hn => runF_inv (stp := cpStp) (J := fun x => sndP x.2.2.1) (Post := fun p => (isRet p.1 = true → p.2.2.1 = zeroC ∧ p.2.1.1 = 3) ∧ sndP p.2.2.2.1) (μ := cpMu) (fun x hx => by
    obtain ⟨⟨e, r, ⟨⟩⟩, c2, c4, ⟨⟩⟩ := x
    have hx' : sndP c4 := hx
    unfold cpStp
    simp only
    cases hb : !(r == []) with
    | false => exact ⟨nofun, fun _ => ⟨nofun, hx'⟩⟩
    | true =>
      simp only [cond_true]
      cases hk : cpBad r with
      | true => exact ⟨nofun, fun _ => ⟨fun _ => ⟨rfl, rfl⟩, hx'⟩⟩
      | false =>
        simp only [cond_false]
        cases h2 : (puF ((cpW r).drop 1)).2 with
        | true => exact ⟨nofun, fun _ => ⟨fun _ => ⟨rfl, rfl⟩, hx'⟩⟩
        | false =>
          simp only [cond_false]
          cases h3 : (cpSet r c4).2 != (0 : Int) with
          | true => exact ⟨nofun, fun _ => ⟨fun _ => ⟨rfl, rfl⟩, hx'⟩⟩
          | false =>
            refine ⟨fun _ => ⟨set_sound hx', ?_⟩, fun h => absurd rfl h⟩
            show (Lib.cut r [32]).2.1.length < r.length
            exact cut_less (by simp) (cpBad_no hk).1) n x hx hn
/-! The document's machine -/
def dA (n c : Int) : Bool := bif (bif decide (c ≥ 97) then decide (c ≤ 112) else false) then decide (n < 0) else false
def dB (n k c : Int) : Bool := bif (bif (bif decide (c ≥ 48) then decide (c ≤ 57) else false) then decide (n ≥ 0) else false) then decide (k ≤ 65536) else false
def dC (n c : Int) : Bool := bif c == (32 : Int) then decide (n ≥ 0) else false
abbrev RcS := (List UInt8 × Int × Int × Int × Int × Int × Unit) × DCosts × DCosts × Unit
def rcSt (s : List UInt8) (e n k i : Int) (c2 c4 : DCosts) : RcS := ((s, e, n, k, (s.length : Int), i, ()), c2, c4, ())
def rcStp : RcS → Ex × RcS
  | ((s, e, n, k, len, i, _), c2, c4, _) =>
    bif decide (i < len) then
      bif dA n (byteAt s i.toNat : Nat) then (.normal, ((s, e, (byteAt s i.toNat : Int) - 97, 0, len, i + 1, ()), c2, c4, ()))
      else bif dB n k (byteAt s i.toNat : Nat) then (.normal, ((s, e, n, k * 10 + ((byteAt s i.toNat : Int) - 48), len, i + 1, ()), c2, c4, ()))
      else bif dC n (byteAt s i.toNat : Nat) then
        bif (csetF c4 n k).2 != (0 : Int) then (.ret, ((s, 3, n, k, len, i, ()), zeroC, c4, ()))
        else (.normal, ((s, e, -1, k, len, i + 1, ()), c2, (csetF c4 n k).1, ()))
      else (.ret, ((s, 3, n, k, len, i, ()), zeroC, c4, ()))
    else (.exit 0, ((s, e, n, k, len, i, ()), c2, c4, ()))
def rcMu (x : RcS) : Nat := (x.1.2.2.2.2.1 - x.1.2.2.2.2.2.1).toNat
def rcPre (x : RcS) : Prop := x.1.2.2.2.2.1 = (x.1.1.length : Int) ∧ x.1.1.length ≤ 1000 ∧ 0 ≤ x.1.2.2.2.2.2.1 ∧ x.1.2.2.2.2.2.1 ≤ x.1.1.length ∧ 0 ≤ x.1.2.2.2.1 ∧ x.1.2.2.2.1 ≤ 655369
theorem rcStp_ends (x : RcS) : (rcStp x).1 = .normal ∨ (rcStp x).1 = .exit 0 ∨ (rcStp x).1 = .ret := by
  obtain ⟨⟨s, e, n, k, len, i, ⟨⟩⟩, c2, c4, ⟨⟩⟩ := x
  unfold rcStp
  simp only
  cases decide (i < len) <;> cases dA n (byteAt s i.toNat : Nat) <;> cases dB n k (byteAt s i.toNat : Nat) <;> cases dC n (byteAt s i.toNat : Nat) <;> cases (csetF c4 n k).2 != (0 : Int) <;> simp
theorem dA_in {n c : Int} (h : dA n c = true) : 97 ≤ c ∧ c ≤ 112 := by
  unfold dA at h
  by_cases h1 : c ≥ 97
  · by_cases h2 : c ≤ 112
    · exact ⟨h1, h2⟩
    · rw [decide_eq_true h1, decide_eq_false h2] at h; cases h
  · rw [decide_eq_false h1] at h; cases h
theorem dB_in {n k c : Int} (h : dB n k c = true) : 48 ≤ c ∧ c ≤ 57 ∧ k ≤ 65536 := by
  unfold dB at h
  by_cases h1 : c ≥ 48
  · by_cases h2 : c ≤ 57
    · rw [decide_eq_true h1, decide_eq_true h2] at h
      by_cases h3 : k ≤ 65536
      · exact ⟨h1, h2, h3⟩
      · rw [decide_eq_false h3] at h
        cases hn : decide (n ≥ 0) <;> rw [hn] at h <;> cases h
    · rw [decide_eq_true h1, decide_eq_false h2] at h; cases h
  · rw [decide_eq_false h1] at h; cases h
theorem rc_go {x : RcS} (hp : rcPre x) (h : (rcStp x).1 = .normal) : rcPre (rcStp x).2 ∧ rcMu (rcStp x).2 < rcMu x := by
  obtain ⟨⟨s, e, n, k, len, i, ⟨⟩⟩, c2, c4, ⟨⟩⟩ := x
  obtain ⟨h1, h2, h3, h4, h5, h6⟩ := hp
  simp only at h1 h2 h3 h4 h5 h6
  subst h1
  unfold rcStp at h ⊢
  simp only at h ⊢
  cases hl : decide (i < (s.length : Int)) with
  | false => rw [hl] at h; cases h
  | true =>
    have hlt := of_decide_eq_true hl
    rw [hl] at h
    simp only [cond_true] at h ⊢
    have hb := byteAt_lt s i.toNat
    have hmu : ((s.length : Int) - (i + 1)).toNat < ((s.length : Int) - i).toNat := by omega
    have hi1 : 0 ≤ i + 1 := by omega
    have hi2 : i + 1 ≤ (s.length : Int) := by omega
    cases hA : dA n (byteAt s i.toNat : Nat) with
    | true => exact ⟨⟨rfl, h2, hi1, hi2, Int.le_refl _, by show (0 : Int) ≤ 655369; decide⟩, hmu⟩
    | false =>
      rw [hA] at h
      simp only [cond_false] at h ⊢
      cases hB : dB n k (byteAt s i.toNat : Nat) with
      | true =>
        have := dB_in hB
        refine ⟨⟨rfl, h2, hi1, hi2, ?_, ?_⟩, hmu⟩
        · show 0 ≤ k * 10 + ((byteAt s i.toNat : Int) - 48); omega
        · show k * 10 + ((byteAt s i.toNat : Int) - 48) ≤ 655369; omega
      | false =>
        rw [hB] at h
        simp only [cond_false] at h ⊢
        cases hC : dC n (byteAt s i.toNat : Nat) with
        | true =>
          rw [hC] at h
          simp only [cond_true] at h ⊢
          cases hD : (csetF c4 n k).2 != (0 : Int) with
          | true => rw [hD] at h; cases h
          | false => exact ⟨⟨rfl, h2, hi1, hi2, h5, h6⟩, hmu⟩
        | false => rw [hC] at h; cases h
theorem rc_inv (s : List UInt8) : ∀ (n : Nat) (x : RcS), (sndP x.2.2.1 ∧ x.1.1 = s) → rcMu x < n → ((isRet (runF rcStp n x).1 = true → (runF rcStp n x).2.2.1 = zeroC ∧ (runF rcStp n x).2.1.2.1 = 3) ∧ sndP (runF rcStp n x).2.2.2.1) ∧ (runF rcStp n x).2.1.1 = s :=
  fun n x hx hn => runF_inv (stp := rcStp) (J := fun x => sndP x.2.2.1 ∧ x.1.1 = s) (Post := fun p => ((isRet p.1 = true → p.2.2.1 = zeroC ∧ p.2.1.2.1 = 3) ∧ sndP p.2.2.2.1) ∧ p.2.1.1 = s) (μ := rcMu) (fun x hx => by
    obtain ⟨⟨y, e, n, k, len, i, ⟨⟩⟩, c2, c4, ⟨⟩⟩ := x
    obtain ⟨hq, hs⟩ := hx
    have hx' : sndP c4 := hq
    have hs' : y = s := hs
    subst hs'
    unfold rcStp
    simp only
    cases hl : decide (i < len) with
    | false => exact ⟨nofun, fun _ => ⟨⟨nofun, hx'⟩, rfl⟩⟩
    | true =>
      have hlt := of_decide_eq_true hl
      simp only [cond_true]
      have hmu : (len - (i + 1)).toNat < (len - i).toNat := by omega
      cases hA : dA n (byteAt y i.toNat : Nat) with
      | true => exact ⟨fun _ => ⟨⟨hx', rfl⟩, hmu⟩, fun h => absurd rfl h⟩
      | false =>
        simp only [cond_false]
        cases hB : dB n k (byteAt y i.toNat : Nat) with
        | true => exact ⟨fun _ => ⟨⟨hx', rfl⟩, hmu⟩, fun h => absurd rfl h⟩
        | false =>
          simp only [cond_false]
          cases hC : dC n (byteAt y i.toNat : Nat) with
          | true =>
            simp only [cond_true]
            cases hD : (csetF c4 n k).2 != (0 : Int) with
            | true => exact ⟨nofun, fun _ => ⟨⟨fun _ => ⟨rfl, rfl⟩, hx'⟩, rfl⟩⟩
            | false => exact ⟨fun _ => ⟨⟨set_sound hx', rfl⟩, hmu⟩, fun h => absurd rfl h⟩
          | false => exact ⟨nofun, fun _ => ⟨⟨fun _ => ⟨rfl, rfl⟩, hx'⟩, rfl⟩⟩) n x hx hn
def rcRun (x : RcS) : Ex × RcS := runF rcStp (rcMu x + 1) x
theorem rcr_go {x y : RcS} (hp : rcPre x) (h : rcStp x = (.normal, y)) : rcPre y ∧ rcRun x = rcRun y := by
  have h1 : (rcStp x).1 = .normal := by rw [h]
  obtain ⟨g1, g2⟩ := rc_go hp h1
  rw [h] at g1 g2
  refine ⟨g1, ?_⟩
  unfold rcRun
  rw [runF_go h]
  exact runF_fuel (pre := rcPre) (μ := rcMu) (fun z hz hn => rc_go hz hn) _ _ _ g1 g2 (by omega)
end Go.Ev
/- The better of two trees, and what is asked of trees read. -/
set_option linter.unusedVariables false
set_option linter.unusedSimpArgs false
namespace Go.Ev
theorem digN_max : ∀ f k n, n < 10 ^ (k + 1) → (digN f n).length ≤ k + 1
  | 0, _, _, _ => by simp [digN]
  | f + 1, k, n, h => by
    unfold digN
    cases hb : Nat.blt n 10 with
    | true => simp
    | false =>
      have hn : ¬ n < 10 := by
        intro hn
        have h9 : Nat.blt n 10 = true := by rw [Nat.blt_eq]; exact hn
        rw [h9] at hb
        cases hb
      simp only [cond_false, List.length_append, List.length_cons, List.length_nil]
      cases k with
      | zero => simp at h; omega
      | succ k =>
        have h2 : n / 10 < 10 ^ (k + 1) := by rw [Nat.pow_succ] at h; omega
        have := digN_max f k (n / 10) h2
        omega
theorem ent_short {t : List DEnt} (h : plainT t) {j : Int} (h0 : 0 ≤ j) (h1 : j < 16) : (entB t j).length ≤ 13 := by
  have hg := h.1.2 j.toNat (by omega)
  have e1 : (natT (entAt t j.toNat).1.toNat).length ≤ 10 := digN_max 20 9 _ (by have := hg.2; omega)
  have e2 : (textN (withF 0 j)).length = 1 := by rw [(one_text h0 h1).1]; rfl
  have e3 : (textN (withF 0 (entAt t j.toNat).2)).length = 1 := by rw [pchar_text hg.1]; rfl
  unfold entB
  simp only [List.length_append, List.length_cons, List.length_nil]
  omega
theorem tree_short {t : List DEnt} (h : plainT t) : (treeB t).length ≤ 208 := by
  have key : ∀ l : List Int, (∀ j ∈ l, 0 ≤ j ∧ j < 16) → (l.flatMap (entB t)).length ≤ 13 * l.length := fun l => by
    induction l with
    | nil => intro _; simp
    | cons j l ih =>
      intro hl
      have h1 := ih fun i hi => hl i (by simp [hi])
      have h2 := ent_short h (hl j (by simp)).1 (hl j (by simp)).2
      rw [List.flatMap_cons, List.length_append, List.length_cons]
      omega
  have h2 := elems_len (reachT t) 16
  have := key (elemsF (reachT t) 16) fun j hj => by
    have := elem_in (Nat.le_refl 16) hj
    exact ⟨this.1, this.2.1⟩
  unfold treeB
  omega
/-! The better of two -/
def betE (x y : DEnt) : DEnt := bif decide (y.1 < x.1) then y else x
def betK (b : List DEnt) : Nat → List DEnt → List DEnt
  | 0, a => a
  | k + 1, a => betK b k (bif decide ((entAt b (15 - k)).1 < (entAt a (15 - k)).1) then a.set (15 - k) (entAt b (15 - k)) else a)
def betF (a b : List DEnt) : List DEnt := betK b 16 a
theorem betK_at {b : List DEnt} : ∀ k a, k ≤ 16 → a.length = 16 → (betK b k a).length = 16 ∧ ∀ j, j < 16 → entAt (betK b k a) j = if 16 - k ≤ j then betE (entAt a j) (entAt b j) else entAt a j
  | 0, a, _, ha => ⟨ha, fun j hj => by rw [if_neg (by omega)]; rfl⟩
  | k + 1, a, hk, ha => by
    have hlen : (bif decide ((entAt b (15 - k)).1 < (entAt a (15 - k)).1) then a.set (15 - k) (entAt b (15 - k)) else a).length = 16 := by
      cases decide ((entAt b (15 - k)).1 < (entAt a (15 - k)).1) with
      | true => simp only [cond_true, List.length_set]; exact ha
      | false => exact ha
    obtain ⟨h1, h2⟩ := betK_at (b := b) k _ (by omega) hlen
    refine ⟨h1, fun j hj => ?_⟩
    rw [betK, h2 j hj]
    have hat : entAt (bif decide ((entAt b (15 - k)).1 < (entAt a (15 - k)).1) then a.set (15 - k) (entAt b (15 - k)) else a) j = if 15 - k = j then betE (entAt a j) (entAt b j) else entAt a j := by
      by_cases he : 15 - k = j
      · subst he
        rw [if_pos rfl]
        unfold betE
        cases decide ((entAt b (15 - k)).1 < (entAt a (15 - k)).1) with
        | true => simp only [cond_true]; rw [ent_set (by omega), if_pos rfl]
        | false => rfl
      · rw [if_neg he]
        cases decide ((entAt b (15 - k)).1 < (entAt a (15 - k)).1) with
        | true => simp only [cond_true]; rw [ent_set (by omega), if_neg he]
        | false => rfl
    rw [hat]
    by_cases h3 : 16 - k ≤ j
    · rw [if_pos h3, if_neg (show ¬ 15 - k = j by omega), if_pos (show 16 - (k + 1) ≤ j by omega)]
    · by_cases h4 : 15 - k = j
      · rw [if_neg h3, if_pos h4, if_pos (show 16 - (k + 1) ≤ j by omega)]
      · rw [if_neg h3, if_neg h4, if_neg (show ¬ 16 - (k + 1) ≤ j by omega)]
theorem bet_at {a b : List DEnt} (ha : a.length = 16) {j : Nat} (hj : j < 16) : entAt (betF a b) j = betE (entAt a j) (entAt b j) := by
  have := (betK_at (b := b) 16 a (Nat.le_refl _) ha).2 j hj
  rw [if_pos (by omega)] at this
  exact this
theorem bet_len {a b : List DEnt} (ha : a.length = 16) : (betF a b).length = 16 := (betK_at (b := b) 16 a (Nat.le_refl _) ha).1
theorem betE_low (x y : DEnt) : (decide ((betE x y).1 > x.1)) = false ∧ (decide ((betE x y).1 > y.1)) = false ∧ (betE x y = x ∨ betE x y = y) := by
  unfold betE
  by_cases h : y.1 < x.1
  · rw [decide_eq_true h]
    exact ⟨decide_eq_false (by simp only [cond_true]; omega), decide_eq_false (by simp only [cond_true]; omega), .inr rfl⟩
  · rw [decide_eq_false h]
    exact ⟨decide_eq_false (by simp only [cond_false]; omega), decide_eq_false (by simp only [cond_false]; omega), .inl rfl⟩
/-! Plain trees, as the law asks -/
def plB (e : DEnt) : Bool := bif e.2 == (-1 : Int) then true else bif rightF e.2 then e.1 != (4294967295 : Int) else false
def plainK (t : List DEnt) : Nat → Bool → Bool
  | 0, p => p
  | k + 1, p => plainK t k (bif p then plB (entAt t (15 - k)) else false)
theorem plainK_true {t : List DEnt} : ∀ k p, k ≤ 16 → plainK t k p = true → p = true ∧ ∀ j, 16 - k ≤ j → j < 16 → plB (entAt t j) = true
  | 0, p, _, h => ⟨h, fun j h1 h2 => by omega⟩
  | k + 1, p, hk, h => by
    obtain ⟨h1, h2⟩ := plainK_true (t := t) k _ (by omega) h
    cases p with
    | false => cases h1
    | true =>
      refine ⟨rfl, fun j h3 h4 => ?_⟩
      by_cases he : j = 15 - k
      · rw [he]; exact h1
      · exact h2 j (by omega) h4
theorem plain_of {t : List DEnt} (hw : t.length = 16) (ho : tOK t) (h : plainK t 16 true = true) : plainT t := by
  have hp := (plainK_true 16 true (Nat.le_refl _) h).2
  have hc : ∀ j, j < 16 → (entAt t j).2 = -1 ∨ 0 ≤ (entAt t j).2 ∧ (entAt t j).2 < 16 ∧ (entAt t j).1 ≠ 4294967295 := fun j hj => by
    have := hp j (by omega) hj
    unfold plB at this
    cases h1 : (entAt t j).2 == (-1 : Int) with
    | true => left; simpa using h1
    | false =>
      rw [h1] at this
      simp only [cond_false] at this
      cases h2 : rightF (entAt t j).2 with
      | false => rw [h2] at this; cases this
      | true =>
        rw [h2] at this
        have h3 := rightF_iff.1 h2
        have h4 : ((entAt t j).1 != (4294967295 : Int)) = true := this
        right
        refine ⟨h3.1, h3.2, fun he => ?_⟩
        rw [he] at h4
        cases h4
  refine ⟨⟨hw, fun j hj => ⟨?_, ho j⟩⟩, hc⟩
  exact (hc j hj).imp id fun h => ⟨h.1, h.2.1⟩
theorem betF_eq (a b : List DEnt) : betK b (Int.toNat ((16 : Int) - (0 : Int))) a = betF a b := by
  unfold betF
  rw [show Int.toNat ((16 : Int) - (0 : Int)) = 16 by decide]
theorem betK_step {b a : List DEnt} {i : Int} (h0 : 0 ≤ i) (h1 : i < 16) : betK b (16 - (i + 1)).toNat (bif decide ((b.getD i.toNat ((0 : Int), (0 : Int))).1 < (a.getD i.toNat ((0 : Int), (0 : Int))).1) then a.set i.toNat (b.getD i.toNat ((0 : Int), (0 : Int))) else a) = betK b (16 - i).toNat a := by
  obtain ⟨s1, s2⟩ := step_i h0 h1
  rw [s1, betK, s2]
  rfl
theorem plainK_step {t : List DEnt} {p : Bool} {i : Int} (h0 : 0 ≤ i) (h1 : i < 16) : plainK t (16 - (i + 1)).toNat (bif p then plB (entAt t i.toNat) else false) = plainK t (16 - i).toNat p := by
  obtain ⟨s1, s2⟩ := step_i h0 h1
  rw [s1, plainK, s2]
theorem plainK_end (t : List DEnt) (p : Bool) : plainK t (16 - (16 : Int)).toNat p = p := by
  rw [show (16 - (16 : Int)).toNat = 0 by decide, plainK]
theorem betK_end (b a : List DEnt) : betK b (16 - (16 : Int)).toNat a = a := by
  rw [show (16 - (16 : Int)).toNat = 0 by decide, betK]
attribute [irreducible] betF betK plainK
end Go.Ev
/- Links read: told links come back. -/
set_option linter.unusedVariables false
set_option linter.unusedSimpArgs false
namespace Go.Ev
def addC (c : DCosts) (a : DCosts) (j : Int) : DCosts := (withF a.1 j, a.2.set j.toNat (c.2.getD j.toNat 0))
theorem add_fold {c : DCosts} : ∀ (l : List Int) (a : Nat) (ys : List Int), a < 65536 → ys.length = 16 → (∀ j ∈ l, 0 ≤ j ∧ j < 16) →
    ∃ (a' : Nat) (ys' : List Int), l.foldl (addC c) ((a : Int), ys) = ((a' : Int), ys') ∧ a' < 65536 ∧ ys'.length = 16 ∧ (∀ n, n < 16 → a'.testBit n = (a.testBit n || decide ((n : Int) ∈ l))) ∧ ∀ n, n < 16 → ys'.getD n 0 = if (n : Int) ∈ l then c.2.getD n 0 else ys.getD n 0
  | [], a, ys, ha, hs, _ => ⟨a, ys, rfl, ha, hs, fun n _ => by simp, fun n _ => by simp⟩
  | j :: l, a, ys, ha, hs, hl => by
    obtain ⟨h0, h1⟩ := hl j (by simp)
    obtain ⟨i, rfl⟩ := Int.eq_ofNat_of_zero_le h0
    have hi : i < 16 := by omega
    have ho : a ||| 2 ^ i < 2 ^ 16 := Nat.or_lt_two_pow (by omega) (Nat.lt_of_le_of_lt (Nat.pow_le_pow_right (by omega) (show i ≤ 15 by omega)) (by decide))
    have h16 : (2 : Nat) ^ 16 = 65536 := by decide
    have e : addC c ((a : Int), ys) (i : Int) = (((a ||| 2 ^ i : Nat) : Int), ys.set i (c.2.getD i 0)) := by
      unfold addC
      simp only [Int.toNat_natCast]
      rw [with_nat ha hi]
    obtain ⟨a', ys', k1, k2, k3, k4, k5⟩ := add_fold (c := c) l (a ||| 2 ^ i) (ys.set i (c.2.getD i 0)) (by omega) (by rw [List.length_set]; exact hs) fun x hx => hl x (by simp [hx])
    refine ⟨a', ys', by rw [List.foldl_cons, e]; exact k1, k2, k3, fun n hn => ?_, fun n hn => ?_⟩
    · rw [k4 n hn, Nat.testBit_or, Nat.testBit_two_pow]
      have : decide ((n : Int) ∈ (i : Int) :: l) = (decide (i = n) || decide ((n : Int) ∈ l)) := by
        rw [← Bool.decide_or]
        congr 1
        rw [List.mem_cons]
        apply propext
        constructor <;> rintro (h | h)
        · left; omega
        · exact .inr h
        · left; omega
        · exact .inr h
      rw [this, Bool.or_assoc]
    · rw [k5 n hn, getD_set (by omega)]
      by_cases hm : (n : Int) ∈ l
      · rw [if_pos hm, if_pos (by simp [hm])]
      · rw [if_neg hm]
        by_cases hin : i = n
        · rw [if_pos hin, if_pos (by simp [hin]), hin]
        · rw [if_neg hin, if_neg]
          rw [List.mem_cons]
          rintro (h | h)
          · omega
          · exact hm h
theorem sound_fold {c : DCosts} (h : sndP c) : (elemsF c.1 16).foldl (addC c) zeroC = c := by
  obtain ⟨m, hm, hc, hok⟩ := sound_iff.1 h.1
  obtain ⟨a', ys', k1, k2, k3, k4, k5⟩ := add_fold (c := c) (elemsF c.1 16) 0 (List.replicate 16 0) (by decide) (by decide) fun j hj => by
    have := elem_in (Nat.le_refl 16) hj
    exact ⟨this.1, this.2.1⟩
  have hmem : ∀ n : Nat, n < 16 → ((n : Int) ∈ elemsF c.1 16 ↔ m.testBit n = true) := fun n hn => by
    rw [mem_elems (Nat.le_refl 16), hc, has_nat hn]
    constructor
    · exact fun h => h.2.2
    · exact fun h => ⟨by omega, by omega, h⟩
  have e : zeroC = (((0 : Nat) : Int), List.replicate 16 0) := rfl
  rw [e, k1]
  have ea : a' = m := Nat.eq_of_testBit_eq fun n => by
    by_cases hn : n < 16
    · rw [k4 n hn]
      rw [Nat.zero_testBit, Bool.false_or]
      cases hb : m.testBit n with
      | true => exact decide_eq_true ((hmem n hn).2 hb)
      | false => exact decide_eq_false fun hx => by rw [(hmem n hn).1 hx] at hb; cases hb
    · have hp : 2 ^ 16 ≤ 2 ^ n := Nat.pow_le_pow_right (by omega) (by omega)
      have h16 : (2 : Nat) ^ 16 = 65536 := by decide
      rw [Nat.testBit_lt_two_pow (show a' < 2 ^ n by omega), Nat.testBit_lt_two_pow (show m < 2 ^ n by omega)]
  have es : ys' = c.2 := List.ext_getElem (by rw [k3, h.2]) fun n h1 h2 => by
    have hn : n < 16 := by omega
    have := k5 n hn
    have z0 : (List.replicate 16 (0 : Int)).getD n 0 = 0 := by
      rw [List.getD_eq_getElem?_getD, List.getElem?_replicate, if_pos hn]; rfl
    rw [z0] at this
    have hx : ys'.getD n 0 = c.2.getD n 0 := by
      by_cases hb : (n : Int) ∈ elemsF c.1 16
      · rw [if_pos hb] at this; exact this
      · rw [if_neg hb] at this
        have ho := hok n hn
        have hb' : m.testBit n = false := by
          cases hb2 : m.testBit n with
          | false => rfl
          | true => exact absurd ((hmem n hn).2 hb2) hb
        rw [hb'] at ho
        simp only [cond_false] at ho
        have ho' : c.2.getD n 0 = 0 := by simpa using ho
        rw [this, ho']
    simpa [List.getD, h1, h2] using hx
  rw [ea, es, ← hc]
theorem sound_in {c : DCosts} (h : sndP c) : ∀ j ∈ elemsF c.1 16, 0 ≤ j ∧ j < 16 ∧ rcostF (c.2.getD j.toNat 0) = true := fun j hj => by
  obtain ⟨m, hm, hc, hok⟩ := sound_iff.1 h.1
  obtain ⟨h0, h1, h2⟩ := elem_in (Nat.le_refl 16) hj
  obtain ⟨i, rfl⟩ := Int.eq_ofNat_of_zero_le h0
  have := hok i (by omega)
  rw [hc, has_nat (by omega)] at h2
  rw [h2] at this
  exact ⟨h0, h1, this⟩
theorem rcost_in {w : Int} (h : rcostF w = true) : 1 ≤ w ∧ w ≤ 65536 := by
  unfold rcostF at h
  by_cases h1 : w ≥ 1
  · by_cases h2 : w ≤ 65536
    · exact ⟨h1, h2⟩
    · rw [decide_eq_true h1, decide_eq_false h2] at h; cases h
  · rw [decide_eq_false h1] at h; cases h
theorem lnkB_parts {c : DCosts} {j : Int} (h0 : 0 ≤ j) (h1 : j < 16) : lnkB c j = letF j :: (natT (c.2.getD j.toNat 0).toNat ++ [32]) := by
  unfold lnkB
  rw [(one_text h0 h1).1]
  rfl
theorem dig_ne {d : Nat} (h : d < 10) : UInt8.ofNat (48 + d) ≠ 32 := fun e => by
  have := dig_toNat h
  rw [e] at this
  have h32 : (32 : UInt8).toNat = 32 := rfl
  omega
theorem digN_space : ∀ (f n : Nat), (32 : UInt8) ∉ digN f n
  | 0, _ => by simp [digN]
  | f + 1, n => by
    unfold digN
    cases hb : Nat.blt n 10 with
    | true =>
      have hn : n < 10 := by rw [Nat.blt_eq] at hb; exact hb
      simp only [cond_true, List.mem_singleton]
      exact fun e => dig_ne hn e.symm
    | false =>
      simp only [cond_false, List.mem_append, List.mem_singleton]
      rintro (h | h)
      · exact digN_space f _ h
      · exact dig_ne (d := n % 10) (by omega) h.symm
theorem lnk_cut {c : DCosts} {j : Int} {q : List UInt8} (h0 : 0 ≤ j) (h1 : j < 16) : Lib.cut (lnkB c j ++ q) [32] = (letF j :: natT (c.2.getD j.toNat 0).toNat, q, true) := by
  have hno : (32 : UInt8) ∉ letF j :: natT (c.2.getD j.toNat 0).toNat := by
    rw [List.mem_cons]
    rintro (h | h)
    · exact (one_text h0 h1).2.2.2.1 h.symm
    · exact digN_space _ _ h
  rw [lnkB_parts h0 h1, show (letF j :: (natT (c.2.getD j.toNat 0).toNat ++ [32])) ++ q = (letF j :: natT (c.2.getD j.toNat 0).toNat) ++ 32 :: q by simp]
  exact cut_at hno
theorem set_add {c a : DCosts} {j : Int} (h0 : 0 ≤ j) (h1 : j < 16) (hr : rcostF (c.2.getD j.toNat 0) = true) : csetF a j (c.2.getD j.toNat 0) = (addC c a j, 0) := by
  unfold csetF
  rw [hr, rightF_iff.2 ⟨h0, h1⟩]
  rfl
theorem cp_lnks {c : DCosts} {e : Int} {c2 : DCosts} : ∀ (l : List Int) (n : Nat) (acc : DCosts), (∀ j ∈ l, 0 ≤ j ∧ j < 16 ∧ rcostF (c.2.getD j.toNat 0) = true) → (lnksB c l).length < n →
    runF cpStp n ((e, lnksB c l, ()), c2, acc, ()) = (.exit 0, ((e, [], ()), c2, l.foldl (addC c) acc, ()))
  | [], n + 1, acc, _, _ => by
    have h : cpStp ((e, ([] : List UInt8), ()), c2, acc, ()) = (.exit 0, ((e, [], ()), c2, acc, ())) := rfl
    show runF cpStp (n + 1) ((e, [], ()), c2, acc, ()) = _
    rw [runF_end (by rw [h]; intro h2; cases h2), h]
    rfl
  | _, 0, _, _, h => by omega
  | j :: l, n + 1, acc, hl, hn => by
    obtain ⟨h0, h1, hr⟩ := hl j (by simp)
    have hcut := lnk_cut (c := c) (q := lnksB c l) h0 h1
    rw [← lnks_cons] at hcut
    have hin := rcost_in hr
    have hne : (lnksB c (j :: l) == []) = false := by
      rw [lnks_cons, lnkB_parts h0 h1]
      rfl
    have hw : cpW (lnksB c (j :: l)) = letF j :: natT (c.2.getD j.toNat 0).toNat := by unfold cpW; rw [hcut]
    have hbad : cpBad (lnksB c (j :: l)) = false := by unfold cpBad; rw [hw, hcut]; rfl
    have hpu : puF ((cpW (lnksB c (j :: l))).drop 1) = (c.2.getD j.toNat 0, false) := by
      rw [hw]
      exact pu_nat (by omega) (by omega)
    have hlet : ((byteAt (cpW (lnksB c (j :: l))) 0 : Nat) : Int) - 97 = j := by
      rw [hw]
      show (((letF j).toNat : Nat) : Int) - 97 = j
      rw [letF_nat h0 h1]; omega
    have hset : cpSet (lnksB c (j :: l)) acc = (addC c acc j, 0) := by
      unfold cpSet
      rw [hpu, hlet]
      exact set_add h0 h1 hr
    have h : cpStp ((e, lnksB c (j :: l), ()), c2, acc, ()) = (.normal, ((e, lnksB c l, ()), c2, addC c acc j, ())) := by
      unfold cpStp
      simp only
      rw [hne, hbad, hpu, hset, hcut]
      rfl
    have hlen : (lnksB c (j :: l)).length = (lnkB c j).length + (lnksB c l).length := by rw [lnks_cons, List.length_append]
    have hpos : 0 < (lnkB c j).length := by rw [lnkB_parts h0 h1]; simp
    rw [runF_go h, cp_lnks l n _ (fun i hi => hl i (by simp [hi])) (by omega)]
    rfl
def cpRun (s : List UInt8) : Ex × CpS := runF cpStp (cpMu ((0, s, ()), zeroC, zeroC, ()) + 1) ((0, s, ()), zeroC, zeroC, ())
theorem cp_told {c : DCosts} (h : sndP c) : (cpRun (linksT c)).1 = .exit 0 ∧ (cpRun (linksT c)).2.2.2.1 = c := by
  have := cp_lnks (c := c) (e := 0) (c2 := zeroC) (elemsF c.1 16) (cpMu ((0, linksT c, ()), zeroC, zeroC, ()) + 1) zeroC (sound_in h) (Nat.lt_succ_self _)
  have e : cpRun (linksT c) = (.exit 0, ((0, [], ()), zeroC, (elemsF c.1 16).foldl (addC c) zeroC, ())) := this
  rw [e]
  exact ⟨rfl, sound_fold h⟩
/-! The document's machine -/
section
variable {s : List UInt8} {e n k : Int} {c2 c4 : DCosts} {i : Nat}
theorem rc_letter {j : Int} (hn : n < 0) (hi : i < s.length) (h0 : 0 ≤ j) (h1 : j < 16) (hb : byteAt s i = (letF j).toNat) : rcStp (rcSt s e n k (i : Int) c2 c4) = (.normal, rcSt s e j 0 ((i + 1 : Nat) : Int) c2 c4) := by
  have hc := letF_nat h0 h1
  have hA : dA n (byteAt s i : Nat) = true := by
    unfold dA
    rw [hb, decide_eq_true (by omega), decide_eq_true (by omega), decide_eq_true hn]
    rfl
  show rcStp ((s, e, n, k, (s.length : Int), (i : Int), ()), c2, c4, ()) = _
  unfold rcStp
  simp only
  rw [decide_eq_true (by omega), Int.toNat_natCast, hA]
  simp only [cond_true]
  rw [hb, hc, show (97 : Int) + j - 97 = j by omega]
  rfl
theorem dA_no {c : Int} (h : 0 ≤ n) : dA n c = false := by
  unfold dA
  rw [decide_eq_false (show ¬ n < 0 by omega)]
  cases (bif decide (c ≥ 97) then decide (c ≤ 112) else false) <;> rfl
theorem rc_digit (hi : i < s.length) (hn : 0 ≤ n) (h0 : 48 ≤ byteAt s i) (h1 : byteAt s i ≤ 57) (hk : k ≤ 65536) :
    rcStp (rcSt s e n k (i : Int) c2 c4) = (.normal, rcSt s e n (k * 10 + ((byteAt s i : Int) - 48)) ((i + 1 : Nat) : Int) c2 c4) := by
  have hB : dB n k (byteAt s i : Nat) = true := by
    unfold dB
    rw [decide_eq_true (show ((byteAt s i : Nat) : Int) ≥ 48 by omega), decide_eq_true (show ((byteAt s i : Nat) : Int) ≤ 57 by omega), decide_eq_true (show n ≥ 0 by omega), decide_eq_true hk]
    rfl
  show rcStp ((s, e, n, k, (s.length : Int), (i : Int), ()), c2, c4, ()) = _
  unfold rcStp
  simp only
  rw [decide_eq_true (by omega), Int.toNat_natCast, dA_no hn, hB]
  rfl
theorem rc_space (hi : i < s.length) (hn : 0 ≤ n) (hb : byteAt s i = 32) {c' : DCosts} (hs : csetF c4 n k = (c', 0)) : rcStp (rcSt s e n k (i : Int) c2 c4) = (.normal, rcSt s e (-1) k ((i + 1 : Nat) : Int) c2 c') := by
  have hB : dB n k (byteAt s i : Nat) = false := by rw [hb]; rfl
  have hC : dC n (byteAt s i : Nat) = true := by
    unfold dC
    rw [hb, decide_eq_true (show n ≥ 0 by omega)]
    rfl
  show rcStp ((s, e, n, k, (s.length : Int), (i : Int), ()), c2, c4, ()) = _
  unfold rcStp
  simp only
  rw [decide_eq_true (by omega), Int.toNat_natCast, dA_no hn, hB, hC, hs]
  rfl
theorem rc_over : rcRun (rcSt s e n k (s.length : Int) c2 c4) = (.exit 0, rcSt s e n k (s.length : Int) c2 c4) := by
  have h : rcStp (rcSt s e n k (s.length : Int) c2 c4) = (.exit 0, rcSt s e n k (s.length : Int) c2 c4) := by
    show rcStp ((s, e, n, k, (s.length : Int), (s.length : Int), ()), c2, c4, ()) = _
    unfold rcStp
    simp only
    rw [decide_eq_false (by omega)]
    rfl
  unfold rcRun
  rw [runF_end (by rw [h]; intro h2; cases h2), h]
theorem rc_digits : ∀ (w p q : List UInt8) {k v : Int}, s = p ++ (w ++ q) → 0 ≤ n → numGo 65536 w k = some v → rcPre (rcSt s e n k (p.length : Int) c2 c4) →
    rcPre (rcSt s e n v ((p.length + w.length : Nat) : Int) c2 c4) ∧ rcRun (rcSt s e n k (p.length : Int) c2 c4) = rcRun (rcSt s e n v ((p.length + w.length : Nat) : Int) c2 c4)
  | [], p, q, k, v, _, _, hg, hp => by
    simp only [numGo, Option.some.injEq] at hg
    subst hg
    exact ⟨hp, rfl⟩
  | b :: w, p, q, k, v, hs, hn, hg, hp => by
    simp only [numGo] at hg
    cases hc : (bif decide ((b.toNat : Int) < 48) then true else bif decide ((b.toNat : Int) > 57) then true else decide (k > 65536)) with
    | true => rw [hc] at hg; cases hg
    | false =>
      rw [hc] at hg
      simp only [cond_false] at hg
      rw [← badD_eq] at hc
      obtain ⟨c1, c2', c3⟩ := badD_no hc
      have hk : p.length < s.length := by rw [hs]; simp
      have hb : byteAt s p.length = b.toNat := by
        rw [hs]
        have := byte_app (p := p) (q := (b :: w) ++ q) (i := 0)
        rw [Nat.add_zero] at this
        rw [this]
        rfl
      have hstep := rc_digit (s := s) (e := e) (n := n) (k := k) (c2 := c2) (c4 := c4) (i := p.length) hk hn (by rw [hb]; omega) (by rw [hb]; omega) c3
      rw [hb] at hstep
      obtain ⟨g1, g2⟩ := rcr_go hp hstep
      have hs2 : s = (p ++ [b]) ++ (w ++ q) := by rw [hs]; simp
      have hl : (p ++ [b]).length = p.length + 1 := by simp
      obtain ⟨k2, k3⟩ := rc_digits w (p ++ [b]) q hs2 hn hg (by rw [hl]; exact g1)
      rw [hl] at k2 k3
      rw [show p.length + 1 + w.length = p.length + (b :: w).length by simp; omega] at k2 k3
      exact ⟨k2, g2.trans k3⟩
end
theorem rc_lnk {c : DCosts} {s p q : List UInt8} {j e n k : Int} {c2 acc : DCosts} (hn : n < 0) (h0 : 0 ≤ j) (h1 : j < 16) (hr : rcostF (c.2.getD j.toNat 0) = true) (hs : s = p ++ (lnkB c j ++ q)) (hp : rcPre (rcSt s e n k (p.length : Int) c2 acc)) :
    ∃ n1 k1, n1 < 0 ∧ rcPre (rcSt s e n1 k1 ((p ++ lnkB c j).length : Int) c2 (addC c acc j)) ∧ rcRun (rcSt s e n k (p.length : Int) c2 acc) = rcRun (rcSt s e n1 k1 ((p ++ lnkB c j).length : Int) c2 (addC c acc j)) := by
  have hin := rcost_in hr
  rw [lnkB_parts h0 h1] at hs ⊢
  have hnum : numGo 65536 (natT (c.2.getD j.toNat 0).toNat) 0 = some (c.2.getD j.toNat 0) := by
    have := num_digits (top := 65536) 20 (c.2.getD j.toNat 0).toNat (by omega) (by omega) (by omega)
    rw [Int.toNat_of_nonneg (by omega)] at this
    exact this
  have hset := set_add (c := c) (a := acc) h0 h1 hr
  generalize c.2.getD j.toNat 0 = v at hs hnum hset ⊢
  generalize natT v.toNat = w at hs hnum ⊢
  have hk : p.length < s.length := by rw [hs]; simp
  have hb : byteAt s p.length = (letF j).toNat := by
    rw [hs]
    have := byte_app (p := p) (q := (letF j :: (w ++ [32])) ++ q) (i := 0)
    rw [Nat.add_zero] at this
    rw [this]
    rfl
  obtain ⟨g1, g2⟩ := rcr_go hp (rc_letter hn hk h0 h1 hb)
  have hs2 : s = (p ++ [letF j]) ++ (w ++ (32 :: q)) := by rw [hs]; simp
  have hl : (p ++ [letF j]).length = p.length + 1 := by simp
  obtain ⟨k2, k3⟩ := rc_digits w (p ++ [letF j]) _ hs2 h0 hnum (by rw [hl]; exact g1)
  rw [hl] at k2 k3
  have hs3 : s = ((p ++ [letF j]) ++ w) ++ (32 :: q) := by rw [hs]; simp
  have hl3 : ((p ++ [letF j]) ++ w).length = p.length + 1 + w.length := by simp; omega
  have hb3 : byteAt s (p.length + 1 + w.length) = 32 := by
    have := byte_app (p := (p ++ [letF j]) ++ w) (q := 32 :: q) (i := 0)
    rw [Nat.add_zero, ← hs3, hl3] at this
    rw [this]
    rfl
  have hslen : s.length = p.length + 1 + w.length + 1 + q.length := by rw [hs]; simp; omega
  obtain ⟨g3, g4⟩ := rcr_go k2 (rc_space (by omega) h0 hb3 hset)
  have hfin : ((p ++ letF j :: (w ++ [32])).length : Int) = ((p.length + 1 + w.length + 1 : Nat) : Int) := by simp; omega
  rw [hfin]
  exact ⟨_, _, by decide, g3, g2.trans (k3.trans g4)⟩
theorem rc_lnks {c : DCosts} {s : List UInt8} {e : Int} {c2 : DCosts} : ∀ (l : List Int) (p : List UInt8) (n k : Int) (acc : DCosts), n < 0 → (∀ j ∈ l, 0 ≤ j ∧ j < 16 ∧ rcostF (c.2.getD j.toNat 0) = true) → s = p ++ lnksB c l → rcPre (rcSt s e n k (p.length : Int) c2 acc) →
    (rcRun (rcSt s e n k (p.length : Int) c2 acc)).1 = .exit 0 ∧ (rcRun (rcSt s e n k (p.length : Int) c2 acc)).2.2.2.1 = l.foldl (addC c) acc
  | [], p, n, k, acc, _, _, hs, hp => by
    have : s.length = p.length := by rw [hs]; simp [lnksB]
    rw [← this, rc_over]
    exact ⟨rfl, rfl⟩
  | j :: l, p, n, k, acc, hn, hl, hs, hp => by
    obtain ⟨h0, h1, hr⟩ := hl j (by simp)
    rw [lnks_cons] at hs
    obtain ⟨n1, k1, hn1, g1, g2⟩ := rc_lnk hn h0 h1 hr hs hp
    have hs2 : s = (p ++ lnkB c j) ++ lnksB c l := by rw [hs, List.append_assoc]
    have := rc_lnks l (p ++ lnkB c j) n1 k1 _ hn1 (fun i hi => hl i (by simp [hi])) hs2 g1
    rw [g2, List.foldl_cons]
    exact this
theorem links_len {c : DCosts} : (linksT c).length ≤ 640 := by
  have key : ∀ l : List Int, (lnksB c l).length ≤ 40 * l.length := fun l => by
    induction l with
    | nil => simp [lnksB]
    | cons j l ih =>
      have h2 := lnkB_len c j
      rw [lnks_cons, List.length_append, List.length_cons]
      omega
  have h2 := elems_len c.1 16
  have := key (elemsF c.1 16)
  show (lnksB c (elemsF c.1 16)).length ≤ 640
  omega
theorem links_short {c : DCosts} (h : sndP c) : (linksT c).length ≤ 112 := by
  have key : ∀ l : List Int, (∀ j ∈ l, 0 ≤ j ∧ j < 16 ∧ rcostF (c.2.getD j.toNat 0) = true) → (lnksB c l).length ≤ 7 * l.length := fun l => by
    induction l with
    | nil => intro _; simp [lnksB]
    | cons j l ih =>
      intro hl
      obtain ⟨h0, h1, hr⟩ := hl j (by simp)
      have h1' := ih fun i hi => hl i (by simp [hi])
      have hin := rcost_in hr
      have e1 : (natT (c.2.getD j.toNat 0).toNat).length ≤ 5 := digN_max 20 4 _ (by omega)
      have h2 : (lnkB c j).length ≤ 7 := by rw [lnkB_parts h0 h1, List.length_cons, List.length_append]; show _ + 1 + 1 ≤ 7; omega
      rw [lnks_cons, List.length_append, List.length_cons]
      omega
  have h2 := elems_len c.1 16
  have := key (elemsF c.1 16) (sound_in h)
  show (lnksB c (elemsF c.1 16)).length ≤ 112
  omega
theorem rc_told {c : DCosts} (h : sndP c) : (rcRun (rcSt (linksT c) 0 (-1) 0 0 zeroC zeroC)).1 = .exit 0 ∧ (rcRun (rcSt (linksT c) 0 (-1) 0 0 zeroC zeroC)).2.2.2.1 = c := by
  have hl := links_len (c := c)
  have := rc_lnks (c := c) (s := linksT c) (e := 0) (c2 := zeroC) (elemsF c.1 16) [] (-1) 0 zeroC (by decide) (sound_in h) rfl ⟨rfl, by show (linksT c).length ≤ 1000; omega, Int.le_refl _, by show (0 : Int) ≤ (linksT c).length; omega, Int.le_refl _, by show (0 : Int) ≤ 655369; decide⟩
  exact ⟨this.1, this.2.trans (sound_fold h)⟩
/-! What both come to -/
open Classical in
/-- The links that a text tells of. -/
noncomputable def lparseF (s : List UInt8) : DCosts × Int :=
  if (s.length : Int) > 300 then (zeroC, 4) else if h : ∃ c, sndP c ∧ linksT c = s then (h.choose, 0) else (zeroC, 3)
theorem lparse_long {s : List UInt8} (h : (s.length : Int) > 300) : lparseF s = (zeroC, 4) := by unfold lparseF; rw [if_pos h]
theorem cell_one {c d : DCosts} (ht : sndP c) (hu : sndP d) (h : linksT c = linksT d) : c = d := by
  have h1 := (cp_told ht).2
  rw [h] at h1
  exact h1.symm.trans (cp_told hu).2
theorem lparse_told {c : DCosts} (ht : sndP c) (hl : ¬ ((linksT c).length : Int) > 300) : lparseF (linksT c) = (c, 0) := by
  unfold lparseF
  have hx : ∃ d, sndP d ∧ linksT d = linksT c := ⟨c, ht, rfl⟩
  rw [if_neg hl, dif_pos hx]
  have h2 := hx.choose_spec
  rw [cell_one h2.1 ht h2.2]
theorem lparse_none {s : List UInt8} (hl : ¬ (s.length : Int) > 300) (h : ∀ c, sndP c → linksT c ≠ s) : lparseF s = (zeroC, 3) := by
  unfold lparseF
  rw [if_neg hl, dif_neg (fun ⟨c, h1, h2⟩ => h c h1 h2)]
theorem lparse_ok {s : List UInt8} (h : ((lparseF s).2 == (0 : Int)) = true) : sndP (lparseF s).1 ∧ linksT (lparseF s).1 = s := by
  unfold lparseF at h ⊢
  split
  · rename_i hl; rw [if_pos hl] at h; cases h
  · rename_i hl
    rw [if_neg hl] at h
    split
    · rename_i hx; exact hx.choose_spec
    · rename_i hx; rw [dif_neg hx] at h; cases h
theorem c_whole {s : List UInt8} (hl : ¬ (s.length : Int) > 300) {ret : Bool} {c2 c4 : DCosts} {e : Int} (told : ∀ c, sndP c → linksT c = s → ret = false ∧ c4 = c) (hr : ret = true → c2 = zeroC ∧ e = 3) (hg : sndP c4) :
    (ret = true → (c2, e) = lparseF s) ∧ (ret = false → ((!(linksT c4 == s)) = true → (zeroC, 3) = lparseF s) ∧ ((!(linksT c4 == s)) = false → (c4, 0) = lparseF s)) := by
  refine ⟨fun h => ?_, fun h => ⟨fun hc => ?_, fun hc => ?_⟩⟩
  · rw [(hr h).1, (hr h).2]
    refine (lparse_none hl fun c ht e => ?_).symm
    rw [(told c ht e).1] at h
    cases h
  · refine (lparse_none hl fun c ht e => ?_).symm
    rw [(told c ht e).2, e] at hc
    simp at hc
  · have he : linksT c4 = s := by simpa using hc
    rw [← he] at hl ⊢
    exact (lparse_told hg hl).symm
end Go.Ev
/- Configurations out of texts: all lines, in plain Lean. -/
set_option linter.unusedVariables false
set_option linter.unusedSimpArgs false
namespace Go.Ev
theorem drop_nil_le {α : Type} {l : List α} {i : Nat} (h : l.length ≤ i) : l.drop i = [] := List.drop_eq_nil_of_le h
def lineF (c : DConf) (s : List UInt8) : DConf × Bool := bif lineBad c (wordsF s) then (zeroConf, false) else (lineN c (wordsF s), true)
/-- Line by line: what is left, the line so far, its number, what was read. -/
def parGo : List UInt8 → List UInt8 → Int → DConf → DConf × Int × Int
  | [], cur, at', c => bif cur == [] then (c, 0, 0) else (zeroConf, at', 2)
  | b :: l, cur, at', c => bif b == 10 then (bif lineBad c (wordsF cur) then (zeroConf, at', 3) else parGo l [] (at' + 1) (lineN c (wordsF cur))) else parGo l (cur ++ [b]) at' c
def parEnd (s : List UInt8) (r : DConf × Int × Int) : DConf × Int × Int :=
  bif r.2.2 != (0 : Int) then r else bif (bif (printF r.1).2 != (0 : Int) then true else !((printF r.1).1 == s)) then (zeroConf, 0, 3) else (r.1, 0, 0)
def parseF (s : List UInt8) : DConf × Int × Int := bif decide ((s.length : Int) > 2000) then (zeroConf, 0, 4) else parEnd s (parGo s [] 1 zeroConf)
theorem index_no {b : UInt8} : ∀ {s : List UInt8}, b ∉ s → Lib.index s [b] = -1
  | [], _ => rfl
  | a :: s, h => by
    have h1 : b ≠ a := fun e => h (by rw [e]; simp)
    have h2 : b ∉ s := fun e => h (by simp [e])
    have hp : ([b] : List UInt8).isPrefixOf (a :: s) = false := by simp [List.isPrefixOf, h1]
    rw [Lib.index, hp, index_no h2]
    simp
theorem cut_none {b : UInt8} {s : List UInt8} (h : b ∉ s) : Lib.cut s [b] = (s, [], false) := by
  unfold Lib.cut
  rw [index_no h]
  simp
theorem line_split (b : UInt8) : ∀ s : List UInt8, b ∉ s ∨ ∃ a q, s = a ++ b :: q ∧ b ∉ a
  | [] => .inl (by simp)
  | c :: s => by
    by_cases hc : c = b
    · exact .inr ⟨[], s, by rw [hc]; rfl, by simp⟩
    · rcases line_split b s with h | ⟨a, q, h1, h2⟩
      · exact .inl (by rw [List.mem_cons]; rintro (e | e); exact hc e.symm; exact h e)
      · refine .inr ⟨c :: a, q, by rw [h1]; rfl, ?_⟩
        rw [List.mem_cons]
        rintro (e | e)
        · exact hc e.symm
        · exact h2 e
theorem par_line : ∀ (a cur q : List UInt8) (n : Int) (c : DConf), (10 : UInt8) ∉ a → parGo (a ++ 10 :: q) cur n c = bif lineBad c (wordsF (cur ++ a)) then (zeroConf, n, 3) else parGo q [] (n + 1) (lineN c (wordsF (cur ++ a)))
  | [], cur, q, n, c, _ => by rw [List.append_nil]; rfl
  | b :: a, cur, q, n, c, h => by
    have hb : (b == 10) = false := by
      have : b ≠ 10 := fun e => h (by rw [e]; simp)
      simpa using this
    rw [List.cons_append, parGo, hb]
    show parGo (a ++ 10 :: q) (cur ++ [b]) n c = _
    rw [par_line a (cur ++ [b]) q n c (fun e => h (by simp [e])), List.append_assoc]
    rfl
theorem par_last : ∀ (a cur : List UInt8) (n : Int) (c : DConf), (10 : UInt8) ∉ a → parGo a cur n c = bif cur ++ a == [] then (c, 0, 0) else (zeroConf, n, 2)
  | [], cur, n, c, _ => by rw [List.append_nil]; rfl
  | b :: a, cur, n, c, h => by
    have hb : (b == 10) = false := by
      have : b ≠ 10 := fun e => h (by rw [e]; simp)
      simpa using this
    rw [parGo, hb]
    show parGo a (cur ++ [b]) n c = _
    rw [par_last a (cur ++ [b]) n c (fun e => h (by simp [e])), List.append_assoc]
    rfl
/-- What the library cuts off. -/
theorem par_cut {s : List UInt8} (hs : s ≠ []) (n : Int) (c : DConf) : parGo s [] n c = bif !(Lib.cut s [10]).2.2 then (zeroConf, n, 2) else bif lineBad c (wordsF (Lib.cut s [10]).1) then (zeroConf, n, 3) else parGo (Lib.cut s [10]).2.1 [] (n + 1) (lineN c (wordsF (Lib.cut s [10]).1)) := by
  rcases line_split 10 s with h | ⟨a, q, rfl, h⟩
  · rw [cut_none h, par_last s [] n c h]
    have : (([] : List UInt8) ++ s == []) = false := by
      rw [List.nil_append]
      simpa using hs
    rw [this]
    rfl
  · rw [cut_at h, par_line a [] q n c h]
    rfl
/-! Round by round, with the library's cut -/
abbrev CpfS := (Int × Int × List UInt8 × Int × Unit) × (DConf × DConf × Unit)
def cpfStp (x : CpfS) : Ex × CpfS :=
  bif !(x.1.2.2.1 == []) then
    bif !(Lib.cut x.1.2.2.1 [10]).2.2 then (.ret, ((x.1.2.2.2.1, 2, x.1.2.2.1, x.1.2.2.2.1, ()), zeroConf, x.2.2.1, ()))
    else bif !(lineF x.2.2.1 (Lib.cut x.1.2.2.1 [10]).1).2 then (.ret, ((x.1.2.2.2.1, 3, x.1.2.2.1, x.1.2.2.2.1, ()), zeroConf, x.2.2.1, ()))
    else (.normal, ((x.1.1, x.1.2.1, (Lib.cut x.1.2.2.1 [10]).2.1, x.1.2.2.2.1 + 1, ()), x.2.1, (lineF x.2.2.1 (Lib.cut x.1.2.2.1 [10]).1).1, ()))
  else (.exit 0, x)
def cpfMu (x : CpfS) : Nat := x.1.2.2.1.length
def cpfPre (x : CpfS) : Prop := x.1.2.2.1.length ≤ 2000 ∧ 0 ≤ x.1.2.2.2.1 ∧ x.1.2.2.2.1 + x.1.2.2.1.length ≤ 5000
theorem cpfStp_ends (x : CpfS) : (cpfStp x).1 = .normal ∨ (cpfStp x).1 = .exit 0 ∨ (cpfStp x).1 = .ret := by
  unfold cpfStp
  cases !(x.1.2.2.1 == []) <;> cases !(Lib.cut x.1.2.2.1 [10]).2.2 <;> cases !(lineF x.2.2.1 (Lib.cut x.1.2.2.1 [10]).1).2 <;> simp
theorem cpf_go {x : CpfS} (hp : cpfPre x) (h : (cpfStp x).1 = .normal) : cpfPre (cpfStp x).2 ∧ cpfMu (cpfStp x).2 < cpfMu x := by
  obtain ⟨⟨e, e2, r, n, ⟨⟩⟩, c2, c, ⟨⟩⟩ := x
  obtain ⟨h1, h2, h3⟩ := hp
  simp only at h1 h2 h3
  unfold cpfStp at h ⊢
  simp only at h ⊢
  cases hr : !(r == []) with
  | false => rw [hr] at h; cases h
  | true =>
    rw [hr] at h
    cases hc : (Lib.cut r [10]).2.2 with
    | false => rw [hc] at h; cases h
    | true =>
      rw [hc] at h
      have hl := cut_less (t := [10]) (by simp) hc
      cases hb : (lineF c (Lib.cut r [10]).1).2 with
      | false => rw [hb] at h; cases h
      | true =>
        refine ⟨⟨?_, ?_, ?_⟩, ?_⟩
        all_goals simp only [cond_true, cond_false, Bool.not_true, cpfMu]
        all_goals omega
def cpfEnd (r : DConf × Int × Int) (p : Ex × CpfS) : Prop := (p.1 = .ret ∧ r = (zeroConf, p.2.1.1, p.2.1.2.1) ∧ p.2.2.1 = zeroConf ∧ (p.2.1.2.1 != (0 : Int)) = true) ∨ (p.1 = .exit 0 ∧ r = (p.2.2.2.1, 0, 0))
theorem cpf_run {r : DConf × Int × Int} : ∀ (n : Nat) (x : CpfS), (cpfPre x ∧ parGo x.1.2.2.1 [] x.1.2.2.2.1 x.2.2.1 = r) → cpfMu x < n → cpfEnd r (runF cpfStp n x) :=
  runF_inv fun x hx => by
    obtain ⟨hp, hr⟩ := hx
    have hgo := cpf_go hp
    obtain ⟨⟨e, e2, t, n, ⟨⟩⟩, c2, c, ⟨⟩⟩ := x
    simp only at hr
    by_cases ht : t = []
    · subst ht
      refine ⟨fun h => ?_, fun _ => .inr ⟨rfl, hr.symm⟩⟩
      cases h
    · have hne : (!(t == [])) = true := by
        have : (t == []) = false := by simpa using ht
        rw [this]; rfl
      rw [par_cut ht] at hr
      cases hc : (Lib.cut t [10]).2.2 with
      | false =>
        rw [hc] at hr
        refine ⟨fun h => ?_, fun _ => ?_⟩
        · unfold cpfStp at h
          simp only at h
          rw [hne, hc] at h
          cases h
        · unfold cpfStp
          simp only
          rw [hne, hc]
          exact .inl ⟨rfl, hr.symm, rfl, rfl⟩
      | true =>
        rw [hc] at hr
        simp only [Bool.not_true, cond_false] at hr
        cases hb : lineBad c (wordsF (Lib.cut t [10]).1) with
        | true =>
          have hl : lineF c (Lib.cut t [10]).1 = (zeroConf, false) := by unfold lineF; rw [hb]; rfl
          rw [hb] at hr
          refine ⟨fun h => ?_, fun _ => ?_⟩
          · unfold cpfStp at h
            simp only at h
            rw [hne, hc, hl] at h
            cases h
          · unfold cpfStp
            simp only
            rw [hne, hc, hl]
            exact .inl ⟨rfl, hr.symm, rfl, rfl⟩
        | false =>
          have hl : lineF c (Lib.cut t [10]).1 = (lineN c (wordsF (Lib.cut t [10]).1), true) := by unfold lineF; rw [hb]; rfl
          rw [hb] at hr
          have hst : cpfStp ((e, e2, t, n, ()), c2, c, ()) = (.normal, ((e, e2, (Lib.cut t [10]).2.1, n + 1, ()), c2, lineN c (wordsF (Lib.cut t [10]).1), ())) := by
            unfold cpfStp
            simp only
            rw [hne, hc, hl]
            rfl
          refine ⟨fun h => ⟨⟨(hgo h).1, ?_⟩, (hgo h).2⟩, fun h => ?_⟩
          · have h2 : cpfStp ((e, e2, t, n, PUnit.unit), c2, c, PUnit.unit) = _ := hst
            rw [h2]
            exact hr
          · have h2 : cpfStp ((e, e2, t, n, PUnit.unit), c2, c, PUnit.unit) = _ := hst
            rw [h2] at h
            exact absurd rfl h
def cpfSt (s : List UInt8) : CpfS := ((0, 0, s, 1, ()), zeroConf, zeroConf, ())
theorem cpf_all {s : List UInt8} (h : s.length ≤ 2000) : cpfPre (cpfSt s) ∧ cpfEnd (parGo s [] 1 zeroConf) (runF cpfStp (cpfMu (cpfSt s) + 1) (cpfSt s)) := by
  have hp : cpfPre (cpfSt s) := ⟨h, by show (0 : Int) ≤ 1; decide, by show (1 : Int) + (s.length : Int) ≤ 5000; omega⟩
  exact ⟨hp, cpf_run _ _ ⟨hp, rfl⟩ (Nat.lt_succ_self _)⟩
theorem itoa_nat {n : Int} (h : 0 ≤ n) : itoaF n = natT n.toNat := by
  unfold itoaF
  rw [decide_eq_false (by omega)]
  rfl
theorem numBad_no {n : Int} (h : numBad n = false) : 0 ≤ n ∧ n ≤ 1073741824 := by
  unfold numBad at h
  by_cases h0 : n < 0
  · rw [decide_eq_true h0] at h; cases h
  · by_cases h1 : n > 1073741824
    · rw [decide_eq_false h0, decide_eq_true h1] at h; cases h
    · omega
theorem head_text {c : DConf} (h1 : numBad c.2.1.1 = false) (h2 : numBad c.2.1.2.1 = false) (h3 : numBad c.2.1.2.2.1 = false) (h4 : numBad c.2.1.2.2.2 = false) : [110, 111, 100, 101, 32] ++ textN (withF 0 c.1) ++ [10, 114, 117, 108, 101, 115, 32] ++ natT c.2.1.1.toNat ++ [32] ++ natT c.2.1.2.1.toNat ++ [32] ++ natT c.2.1.2.2.1.toNat ++ [32] ++ natT c.2.1.2.2.2.toNat ++ [10] = headT c := by
  unfold headT
  rw [itoa_nat (numBad_no h1).1, itoa_nat (numBad_no h2).1, itoa_nat (numBad_no h3).1, itoa_nat (numBad_no h4).1]
  simp only [List.append_assoc, List.cons_append, List.nil_append]
end Go.Ev
/- The document's way to read a configuration: words, numbers, a line. -/
set_option linter.unusedVariables false
set_option linter.unusedSimpArgs false
namespace Go.Ev
theorem cur_more {s : List UInt8} {a i : Nat} (h : i < s.length) (ha : a ≤ i) : (s.take (i + 1)).drop a = (s.take i).drop a ++ [s.getD i 0] := by
  rw [take_more h, List.drop_append_of_le_length (by rw [List.length_take]; omega)]
/-! Words -/
abbrev KcS := (List UInt8 × Int × Int × Int × Unit) × (List (List UInt8) × Unit)
def kcB (x : KcS) : Int := ((x.1.1.getD x.1.2.2.2.1.toNat 0).toNat : Int)
def kcStp (x : KcS) : Ex × KcS :=
  bif decide (x.1.2.2.2.1 < x.1.2.2.1) then
    bif kcB x == (32 : Int) then (.normal, ((x.1.1, x.1.2.2.2.1 + 1, x.1.2.2.1, x.1.2.2.2.1 + 1, ()), x.2.1 ++ [(x.1.1.take x.1.2.2.2.1.toNat).drop x.1.2.1.toNat], ()))
    else (.normal, ((x.1.1, x.1.2.1, x.1.2.2.1, x.1.2.2.2.1 + 1, ()), x.2.1, ()))
  else (.exit 0, x)
def kcMu (x : KcS) : Nat := (x.1.2.2.1 - x.1.2.2.2.1).toNat
def kcPre (x : KcS) : Prop := 0 ≤ x.1.2.1 ∧ x.1.2.1 ≤ x.1.2.2.2.1 ∧ x.1.2.2.2.1 ≤ x.1.2.2.1 ∧ x.1.2.2.1 = (x.1.1.length : Int) ∧ x.1.2.2.1 ≤ 10000 ∧ (x.2.1.length : Int) ≤ x.1.2.2.2.1
theorem kcStp_ends (x : KcS) : (kcStp x).1 = .normal ∨ (kcStp x).1 = .exit 0 := by
  unfold kcStp
  cases decide (x.1.2.2.2.1 < x.1.2.2.1) <;> cases kcB x == (32 : Int) <;> simp
theorem kc_go {x : KcS} (hp : kcPre x) (h : (kcStp x).1 = .normal) : kcPre (kcStp x).2 ∧ kcMu (kcStp x).2 < kcMu x := by
  have hc : ∀ b : Bool, (kcB x == (32 : Int)) = b → kcPre (kcStp x).2 ∧ kcMu (kcStp x).2 < kcMu x := by
    intro b hb
    obtain ⟨⟨s, a, len, i, ⟨⟩⟩, out, ⟨⟩⟩ := x
    obtain ⟨h1, h2, h3, h4, h5, h6⟩ := hp
    simp only at h1 h2 h3 h4 h5 h6
    unfold kcStp at h ⊢
    rw [hb] at h ⊢
    simp only at h ⊢
    by_cases hlt : i < len
    · rw [decide_eq_true hlt] at h ⊢
      cases b with
      | true =>
        refine ⟨⟨?_, ?_, ?_, h4, h5, ?_⟩, ?_⟩
        all_goals simp only [cond_true, kcMu, List.length_append, List.length_cons, List.length_nil]
        all_goals omega
      | false =>
        refine ⟨⟨?_, ?_, ?_, h4, h5, ?_⟩, ?_⟩
        all_goals simp only [cond_true, cond_false, kcMu]
        all_goals omega
    · rw [decide_eq_false hlt] at h
      cases h
  exact hc _ rfl
def kcEnd (s : List UInt8) (p : Ex × KcS) : Prop := p.1 = .exit 0 ∧ p.2.1.1 = s ∧ 0 ≤ p.2.1.2.1 ∧ p.2.1.2.1 ≤ s.length ∧ p.2.2.1.length ≤ s.length ∧ p.2.2.1 ++ [s.drop p.2.1.2.1.toNat] = wordsF s
theorem kc_run {s : List UInt8} : ∀ (n : Nat) (x : KcS), (kcPre x ∧ x.1.1 = s ∧ x.2.1 ++ wordsGo (s.drop x.1.2.2.2.1.toNat) ((s.take x.1.2.2.2.1.toNat).drop x.1.2.1.toNat) = wordsF s) → kcMu x < n → kcEnd s (runF kcStp n x) :=
  runF_inv fun x hx => by
    obtain ⟨hp, hs, hw⟩ := hx
    have hgo := kc_go hp
    obtain ⟨⟨s', a, len, i, ⟨⟩⟩, out, ⟨⟩⟩ := x
    obtain ⟨h1, h2, h3, h4, h5, h6⟩ := hp
    simp only at h1 h2 h3 h4 h5 h6 hs hw
    subst hs
    by_cases hlt : i < len
    · have hn : i.toNat < s'.length := by omega
      have e1 : (i + 1).toNat = i.toNat + 1 := by omega
      rw [drop_at hn, wordsGo] at hw
      have hb : kcB ((s', a, len, i, ()), out, ()) = ((s'.getD i.toNat 0).toNat : Int) := rfl
      have hcase : (((s'.getD i.toNat 0).toNat : Int) == (32 : Int)) = (s'.getD i.toNat 0 == 32) := by
        rw [Bool.eq_iff_iff]
        simp only [beq_iff_eq]
        constructor
        · intro h
          apply UInt8.toNat_inj.1
          show _ = 32
          omega
        · intro h
          rw [h]; rfl
      have hst : kcStp ((s', a, len, i, ()), out, ()) = bif s'.getD i.toNat 0 == 32 then (.normal, ((s', i + 1, len, i + 1, ()), out ++ [(s'.take i.toNat).drop a.toNat], ())) else (.normal, ((s', a, len, i + 1, ()), out, ())) := by
        unfold kcStp
        rw [hb, hcase]
        simp only
        rw [decide_eq_true hlt]
        rfl
      have h2' : kcStp ((s', a, len, i, PUnit.unit), out, PUnit.unit) = _ := hst
      refine ⟨fun h => ⟨⟨(hgo h).1, ?_⟩, (hgo h).2⟩, fun h => ?_⟩
      · rw [h2']
        cases hc : s'.getD i.toNat 0 == 32 with
        | true =>
          rw [hc] at hw
          refine ⟨rfl, ?_⟩
          show (out ++ [(s'.take i.toNat).drop a.toNat]) ++ wordsGo (s'.drop (i + 1).toNat) ((s'.take (i + 1).toNat).drop (i + 1).toNat) = _
          rw [e1, drop_nil_le (l := s'.take (i.toNat + 1)) (by rw [List.length_take]; omega), List.append_assoc]
          exact hw
        | false =>
          rw [hc] at hw
          refine ⟨rfl, ?_⟩
          show out ++ wordsGo (s'.drop (i + 1).toNat) ((s'.take (i + 1).toNat).drop a.toNat) = _
          rw [e1, cur_more hn (by omega)]
          exact hw
      · rw [h2'] at h
        cases hc : s'.getD i.toNat 0 == 32 with
        | true => rw [hc] at h; exact absurd rfl h
        | false => rw [hc] at h; exact absurd rfl h
    · have hi : i = len := by omega
      refine ⟨fun h => ?_, fun _ => ?_⟩
      · unfold kcStp at h
        simp only at h
        rw [decide_eq_false hlt] at h
        cases h
      · have hst : kcStp ((s', a, len, i, PUnit.unit), out, PUnit.unit) = (.exit 0, ((s', a, len, i, ()), out, ())) := by
          unfold kcStp
          simp only
          rw [decide_eq_false hlt]
          rfl
        rw [hst]
        refine ⟨rfl, rfl, h1, ?_, ?_, ?_⟩
        · show a ≤ (s'.length : Int); omega
        · show out.length ≤ s'.length; omega
        · show out ++ [s'.drop a.toNat] = _
          rw [← hw, drop_nil_le (l := s') (i := i.toNat) (by omega), List.take_of_length_le (by omega)]
          rfl
def kcSt (s : List UInt8) : KcS := ((s, 0, (s.length : Int), 0, ()), [], ())
theorem kc_all {s : List UInt8} (h : s.length ≤ 10000) : kcPre (kcSt s) ∧ kcEnd s (runF kcStp (kcMu (kcSt s) + 1) (kcSt s)) := by
  have hp : kcPre (kcSt s) := ⟨Int.le_refl _, Int.le_refl _, by show (0 : Int) ≤ (s.length : Int); omega, rfl, by show (s.length : Int) ≤ _; omega, Int.le_refl _⟩
  exact ⟨hp, kc_run _ _ ⟨hp, rfl, by simp [kcSt, wordsF]⟩ (Nat.lt_succ_self _)⟩
/-! Numbers -/
theorem digN_head : ∀ (f n : Nat), n < 10 ^ f → 0 < f → (digN f n).getD 0 0 = 48 → n = 0
  | 0, _, _, h, _ => by omega
  | f + 1, n, h, _, hd => by
    unfold digN at hd
    cases hb : Nat.blt n 10 with
    | true =>
      have hn : n < 10 := by rw [Nat.blt_eq] at hb; exact hb
      rw [hb] at hd
      have h1 : (UInt8.ofNat (48 + n)) = 48 := hd
      have h2 := dig_toNat hn
      rw [h1] at h2
      have : (48 : UInt8).toNat = 48 := rfl
      omega
    | false =>
      rw [hb] at hd
      have hn : ¬ n < 10 := fun hh => by rw [show Nat.blt n 10 = true by rw [Nat.blt_eq]; exact hh] at hb; cases hb
      have hf : 0 < f := by
        rcases Nat.eq_zero_or_pos f with h0 | h0
        · subst h0; omega
        · exact h0
      have hne := digN_ne f (n / 10) hf
      have h1 : (digN f (n / 10) ++ [UInt8.ofNat (48 + n % 10)]).getD 0 0 = (digN f (n / 10)).getD 0 0 := by
        cases hl : digN f (n / 10) with
        | nil => exact absurd hl hne
        | cons a l => rfl
      have h2 : (digN f (n / 10) ++ [UInt8.ofNat (48 + n % 10)]).getD 0 0 = 48 := hd
      rw [h1] at h2
      have := digN_head f (n / 10) (by rw [Nat.pow_succ] at h; omega) hf h2
      omega
theorem lz_digits {n : Nat} (h : n < 10 ^ 20) : lzF (natT n) = false := by
  unfold lzF
  cases hc : (((natT n).getD 0 0).toNat : Int) == 48 with
  | false => rfl
  | true =>
    have h1 : (natT n).getD 0 0 = 48 := by
      apply UInt8.toNat_inj.1
      have : (((natT n).getD 0 0).toNat : Int) = 48 := by simpa using hc
      show _ = 48
      omega
    have := digN_head 20 n h (by omega) h1
    subst this
    decide
theorem num_last {top : Int} : ∀ (k : Nat) (s : List UInt8), s.length = k → ∀ n, numGo top s 0 = some n → s ≠ [] → lzF s = false → ∀ f, n.toNat < 10 ^ f → 0 < f → digN f n.toNat = s
  | 0, s, hk, n, _, hne, _, _, _, _ => absurd (List.length_eq_zero_iff.1 hk) hne
  | k + 1, s, hk, n, hn, hne, hlz, f, hf, hf0 => by
    obtain ⟨l, b, rfl⟩ : ∃ l b, s = l ++ [b] := ⟨s.dropLast, s.getLast hne, (List.dropLast_concat_getLast hne).symm⟩
    rw [num_more] at hn
    cases hm : numGo top l 0 with
    | none => rw [hm] at hn; cases hn
    | some m =>
      rw [hm] at hn
      simp only at hn
      rw [← badD_eq] at hn
      have hm0 := num_pos l 0 (Int.le_refl _) m hm
      cases hc : badD top (b.toNat : Int) m with
      | true => rw [hc] at hn; cases hn
      | false =>
        rw [hc] at hn
        have hbd := badD_no hc
        simp only [cond_false, Option.some.injEq] at hn
        have hb8 := b.toNat_lt
        have hbb : UInt8.ofNat (48 + (b.toNat - 48)) = b := by
          apply UInt8.toNat_inj.1
          rw [UInt8.toNat_ofNat']
          omega
        obtain ⟨g, rfl⟩ : ∃ g, f = g + 1 := ⟨f - 1, by omega⟩
        by_cases hl : l = []
        · subst hl
          simp only [numGo, Option.some.injEq] at hm
          subst hm
          unfold digN
          rw [show Nat.blt n.toNat 10 = true by rw [Nat.blt_eq]; omega]
          show [UInt8.ofNat (48 + n.toNat)] = [b]
          rw [show n.toNat = b.toNat - 48 by omega, hbb]
        · have hlen : l.length = k := by rw [List.length_append] at hk; simp at hk; omega
          have hpos := List.length_pos_iff.2 hl
          have hhead : (l ++ [b]).getD 0 0 = l.getD 0 0 := by
            cases l with
            | nil => exact absurd rfl hl
            | cons a l => rfl
          have h48 : (((l.getD 0 0).toNat : Int) == 48) = false := by
            unfold lzF at hlz
            rw [hhead] at hlz
            cases hh : ((l.getD 0 0).toNat : Int) == 48 with
            | false => rfl
            | true =>
              rw [hh] at hlz
              have : ¬ ((l ++ [b]).length : Int) > 1 := of_decide_eq_false hlz
              rw [List.length_append] at this
              simp at this
              omega
          have hlz2 : lzF l = false := by unfold lzF; rw [h48]; rfl
          have hq : m ≥ 1 := by
            rcases Int.lt_or_le 0 m with h0 | h0
            · omega
            · exfalso
              have hm1 : m = 0 := by omega
              subst hm1
              have := num_last k l hlen 0 hm hl hlz2 1 (by simp) (by omega)
              rw [← this] at h48
              revert h48
              decide
          have hg0 : 0 < g := by
            rcases Nat.eq_zero_or_pos g with h0 | h0
            · subst h0; simp at hf; omega
            · exact h0
          have hdiv : n.toNat / 10 = m.toNat := by omega
          have hmod : n.toNat % 10 = b.toNat - 48 := by omega
          have hg : m.toNat < 10 ^ g := by rw [Nat.pow_succ] at hf; omega
          unfold digN
          rw [show Nat.blt n.toNat 10 = false by
            cases hh : Nat.blt n.toNat 10 with
            | false => rfl
            | true => rw [Nat.blt_eq] at hh; omega]
          show digN g (n.toNat / 10) ++ [UInt8.ofNat (48 + n.toNat % 10)] = l ++ [b]
          rw [hdiv, hmod, num_last k l hlen m hm hl hlz2 g hg hg0, hbb]
theorem num_top {top : Int} (ht : 0 ≤ top) : ∀ (s : List UInt8) (n v : Int), 0 ≤ n → n ≤ top * 10 + 9 → numGo top s n = some v → v ≤ top * 10 + 9
  | [], n, v, _, h, hv => by simp only [numGo, Option.some.injEq] at hv; omega
  | b :: l, n, v, h0, h, hv => by
    rw [numGo, ← badD_eq] at hv
    cases hc : badD top (b.toNat : Int) n with
    | true => rw [hc] at hv; cases hv
    | false =>
      rw [hc] at hv
      have := badD_no hc
      exact num_top ht l _ v (by omega) (by omega) hv
/-- A number's text is the word just if it has no 0 too many. -/
theorem num_text {s : List UInt8} {n : Int} (h : numGo 1073741824 s 0 = some n) (hs : s ≠ []) : (natT n.toNat == s) = !lzF s := by
  have hn := num_top (top := 1073741824) (by omega) s 0 n (Int.le_refl _) (by omega) h
  have hb : n.toNat < 10 ^ 20 := by
    have : (10 : Nat) ^ 20 = 100000000000000000000 := by decide
    omega
  cases hlz : lzF s with
  | false =>
    rw [show natT n.toNat = s from num_last s.length s rfl n h hs hlz 20 hb (by omega)]
    simp
  | true =>
    cases he : natT n.toNat == s with
    | false => rfl
    | true =>
      have e : natT n.toNat = s := by simpa using he
      have := lz_digits hb
      rw [e, hlz] at this
      cases this
end Go.Ev
/- The document's way to read a configuration: a number's letters, a line. -/
set_option linter.unusedVariables false
set_option linter.unusedSimpArgs false
namespace Go.Ev
abbrev PnS := (List UInt8 × Int × Int × Int × Int × Unit) × Unit
def pnB (x : PnS) : Int := ((x.1.1.getD x.1.2.2.2.2.1.toNat 0).toNat : Int)
def pnStp (x : PnS) : Ex × PnS :=
  bif decide (x.1.2.2.2.2.1 < x.1.2.2.2.1) then
    bif badD 1073741824 (pnB x) x.1.2.2.1 then (.ret, ((x.1.1, -1, x.1.2.2.1, x.1.2.2.2.1, x.1.2.2.2.2.1, ()), ()))
    else (.normal, ((x.1.1, x.1.2.1, x.1.2.2.1 * 10 + (pnB x - 48), x.1.2.2.2.1, x.1.2.2.2.2.1 + 1, ()), ()))
  else (.exit 0, x)
def pnMu (x : PnS) : Nat := (x.1.2.2.2.1 - x.1.2.2.2.2.1).toNat
def pnPre (x : PnS) : Prop := 0 ≤ x.1.2.2.2.2.1 ∧ x.1.2.2.2.2.1 ≤ x.1.2.2.2.1 ∧ x.1.2.2.2.1 = (x.1.1.length : Int) ∧ x.1.2.2.2.1 ≤ 4611686018427387904 ∧ 0 ≤ x.1.2.2.1 ∧ x.1.2.2.1 ≤ 10737418249
theorem pnStp_ends (x : PnS) : (pnStp x).1 = .normal ∨ (pnStp x).1 = .exit 0 ∨ (pnStp x).1 = .ret := by
  unfold pnStp
  cases decide (x.1.2.2.2.2.1 < x.1.2.2.2.1) <;> cases badD 1073741824 (pnB x) x.1.2.2.1 <;> simp
theorem pn_go {x : PnS} (hp : pnPre x) (h : (pnStp x).1 = .normal) : pnPre (pnStp x).2 ∧ pnMu (pnStp x).2 < pnMu x := by
  obtain ⟨⟨s, r, n, len, i, ⟨⟩⟩, ⟨⟩⟩ := x
  obtain ⟨h1, h2, h3, h4, h5, h6⟩ := hp
  simp only at h1 h2 h3 h4 h5 h6
  unfold pnStp at h ⊢
  simp only at h ⊢
  by_cases hlt : i < len
  · rw [decide_eq_true hlt] at h ⊢
    cases hc : badD 1073741824 (pnB ((s, r, n, len, i, ()), ())) n with
    | true => rw [hc] at h; cases h
    | false =>
      have := badD_no hc
      generalize pnB ((s, r, n, len, i, ()), ()) = e at this ⊢
      refine ⟨⟨?_, ?_, h3, h4, ?_, ?_⟩, ?_⟩
      all_goals simp only [cond_true, cond_false, pnMu]
      all_goals omega
  · rw [decide_eq_false hlt] at h
    cases h
def pnEnd (s : List UInt8) (o : Option Int) (p : Ex × PnS) : Prop := match o with
  | none => p.1 = .ret ∧ p.2.1.2.1 = -1
  | some n => p.1 = .exit 0 ∧ p.2.1.2.2.1 = n ∧ p.2.1.1 = s
theorem pn_run {s : List UInt8} {o : Option Int} : ∀ (n : Nat) (x : PnS), (pnPre x ∧ x.1.1 = s ∧ numGo 1073741824 (x.1.1.drop x.1.2.2.2.2.1.toNat) x.1.2.2.1 = o) → pnMu x < n → pnEnd s o (runF pnStp n x) :=
  runF_inv fun x hx => by
    obtain ⟨hp, hs, ho⟩ := hx
    have hgo := pn_go hp
    obtain ⟨⟨s', r, n, len, i, ⟨⟩⟩, ⟨⟩⟩ := x
    obtain ⟨h1, h2, h3, h4, h5, h6⟩ := hp
    simp only at h1 h2 h3 h4 h5 h6 ho hs
    have hs' := hs.symm
    subst hs'
    by_cases hlt : i < len
    · have hn : i.toNat < s.length := by omega
      rw [drop_at hn, numGo, ← badD_eq] at ho
      have hb : pnB ((s, r, n, len, i, ()), ()) = ((s.getD i.toNat 0).toNat : Int) := rfl
      refine ⟨fun h => ⟨⟨(hgo h).1, ?_⟩, (hgo h).2⟩, fun h => ?_⟩
      · unfold pnStp at h ⊢
        simp only at h ⊢
        rw [decide_eq_true hlt] at h ⊢
        simp only [cond_true] at h ⊢
        rw [hb] at h ⊢
        cases hc : badD 1073741824 ((s.getD i.toNat 0).toNat : Int) n with
        | true => rw [hc] at h; cases h
        | false =>
          rw [hc] at ho
          simp only [cond_false] at ho ⊢
          rw [show (i + 1).toNat = i.toNat + 1 by omega]
          exact ⟨trivial, ho⟩
      · unfold pnStp at h ⊢
        simp only at h ⊢
        rw [decide_eq_true hlt] at h ⊢
        simp only [cond_true] at h ⊢
        rw [hb] at h ⊢
        cases hc : badD 1073741824 ((s.getD i.toNat 0).toNat : Int) n with
        | false => rw [hc] at h; exact absurd rfl h
        | true =>
          rw [hc] at ho
          simp only [cond_true] at ho
          subst ho
          exact ⟨rfl, rfl⟩
    · have hi : s.drop i.toNat = [] := List.drop_eq_nil_of_le (by omega)
      rw [hi, numGo] at ho
      subst ho
      refine ⟨fun h => ?_, fun _ => ?_⟩
      · unfold pnStp at h
        simp only at h
        rw [decide_eq_false hlt] at h
        cases h
      · unfold pnStp
        simp only
        rw [decide_eq_false hlt]
        exact ⟨rfl, rfl, rfl⟩
def pnSt (s : List UInt8) : PnS := ((s, 0, 0, (s.length : Int), 0, ()), ())
theorem pn_all {s : List UInt8} (h : s.length ≤ 4611686018427387904) : pnPre (pnSt s) ∧ pnEnd s (numGo 1073741824 s 0) (runF pnStp (pnMu (pnSt s) + 1) (pnSt s)) := by
  have hp : pnPre (pnSt s) := ⟨Int.le_refl _, by show (0 : Int) ≤ (s.length : Int); omega, rfl, by show (s.length : Int) ≤ _; omega, Int.le_refl _, by show (0 : Int) ≤ _; decide⟩
  exact ⟨hp, pn_run _ _ ⟨hp, rfl, rfl⟩ (Nat.lt_succ_self _)⟩
/-! A line's numbers -/
abbrev LnS := (List (List UInt8) × Int × Unit) × (List Int × Unit)
def lnStp (x : LnS) : Ex × LnS :=
  bif (bif decide (x.1.2.1 < (x.1.1.length : Int)) then decide (x.1.2.1 ≤ (4 : Int)) else false) then (.normal, ((x.1.1, x.1.2.1 + 1, ()), x.2.1.set (x.1.2.1 - 1).toNat (numP (x.1.1.getD x.1.2.1.toNat [])), ()))
  else (.exit 0, x)
def lnMu (x : LnS) : Nat := (5 - x.1.2.1).toNat
def vsN (l : List (List UInt8)) (i : Int) (k : Nat) : Int := bif decide ((k : Int) < i) then numP (l.getD k []) else 0
def nsN (l : List (List UInt8)) (i : Int) : List Int := [vsN l i 1, vsN l i 2, vsN l i 3, vsN l i 4]
def lnPre (x : LnS) : Prop := 1 ≤ x.1.2.1 ∧ x.1.2.1 ≤ 5 ∧ (x.1.2.1 ≤ (x.1.1.length : Int) ∨ x.1.2.1 = 1) ∧ x.2.1 = nsN x.1.1 x.1.2.1
theorem lnStp_ends (x : LnS) : (lnStp x).1 = .normal ∨ (lnStp x).1 = .exit 0 := by
  unfold lnStp
  cases (bif decide (x.1.2.1 < (x.1.1.length : Int)) then decide (x.1.2.1 ≤ (4 : Int)) else false) <;> simp
theorem ns_set (l : List (List UInt8)) {i : Int} (h1 : 1 ≤ i) (h2 : i ≤ 4) : (nsN l i).set (i - 1).toNat (numP (l.getD i.toNat [])) = nsN l (i + 1) := by
  have : i = 1 ∨ i = 2 ∨ i = 3 ∨ i = 4 := by omega
  rcases this with rfl | rfl | rfl | rfl <;> rfl
theorem ln_both {a b : Bool} (h : (bif a then b else false) = true) : a = true ∧ b = true := by cases a <;> simp_all
theorem ln_go {x : LnS} (hp : lnPre x) (h : (lnStp x).1 = .normal) : lnPre (lnStp x).2 ∧ lnMu (lnStp x).2 < lnMu x := by
  obtain ⟨⟨l, i, ⟨⟩⟩, m, ⟨⟩⟩ := x
  obtain ⟨h1, h2, h3, h4⟩ := hp
  simp only at h1 h2 h3 h4
  unfold lnStp at h ⊢
  simp only at h ⊢
  cases hc : (bif decide (i < (l.length : Int)) then decide (i ≤ (4 : Int)) else false) with
  | false => rw [hc] at h; cases h
  | true =>
    obtain ⟨c1, c2⟩ := ln_both hc
    have c1' := of_decide_eq_true c1
    have c2' := of_decide_eq_true c2
    refine ⟨⟨?_, ?_, ?_, ?_⟩, ?_⟩
    · show 1 ≤ i + 1; omega
    · show i + 1 ≤ 5; omega
    · show i + 1 ≤ (l.length : Int) ∨ _; omega
    · show m.set (i - 1).toNat (numP (l.getD i.toNat [])) = nsN l (i + 1)
      rw [h4]
      exact ns_set l h1 c2'
    · show (5 - (i + 1)).toNat < (5 - i).toNat
      omega
def lnEnd (l : List (List UInt8)) (p : Ex × LnS) : Prop := p.1 = .exit 0 ∧ p.2.1.1 = l ∧ ∃ i : Int, 1 ≤ i ∧ i ≤ 5 ∧ (i ≤ (l.length : Int) ∨ i = 1) ∧ (i < (l.length : Int) → 4 < i) ∧ p.2.2.1 = nsN l i
theorem ln_run {l : List (List UInt8)} : ∀ (n : Nat) (x : LnS), (lnPre x ∧ x.1.1 = l) → lnMu x < n → lnEnd l (runF lnStp n x) :=
  runF_inv fun x hx => by
    obtain ⟨hp, hl⟩ := hx
    have hgo := ln_go hp
    obtain ⟨⟨l', i, ⟨⟩⟩, m, ⟨⟩⟩ := x
    obtain ⟨h1, h2, h3, h4⟩ := hp
    simp only at h1 h2 h3 h4 hl
    subst hl
    refine ⟨fun h => ⟨⟨(hgo h).1, ?_⟩, (hgo h).2⟩, fun h => ?_⟩
    · unfold lnStp at h ⊢
      simp only at h ⊢
      cases hc : (bif decide (i < (l'.length : Int)) then decide (i ≤ (4 : Int)) else false) with
      | false => rw [hc] at h; cases h
      | true => rfl
    · unfold lnStp at h ⊢
      simp only at h ⊢
      cases hc : (bif decide (i < (l'.length : Int)) then decide (i ≤ (4 : Int)) else false) with
      | true => rw [hc] at h; exact absurd rfl h
      | false =>
        refine ⟨rfl, rfl, i, h1, h2, h3, fun hlt => ?_, h4⟩
        rw [decide_eq_true hlt] at hc
        have : ¬ i ≤ 4 := of_decide_eq_false hc
        omega
def lnSt (l : List (List UInt8)) : LnS := ((l, 1, ()), [0, 0, 0, 0], ())
theorem ln_all (l : List (List UInt8)) : lnPre (lnSt l) ∧ lnEnd l (runF lnStp (lnMu (lnSt l) + 1) (lnSt l)) := by
  have hp : lnPre (lnSt l) := ⟨Int.le_refl _, by show (1 : Int) ≤ 5; decide, .inr rfl, rfl⟩
  exact ⟨hp, ln_run _ _ ⟨hp, rfl⟩ (Nat.lt_succ_self _)⟩
/-! What the document's line makes of it -/
def nodeR (s : List UInt8) : Int := bif nodeBad s then -1 else nodeP s
def lineR (c : DConf) (w : List (List UInt8)) : DConf × Bool :=
  bif isLine w wNode 2 then ((nodeR (w.getD 1 []), c.2), decide (nodeR (w.getD 1 []) ≥ 0))
  else bif isLine w wRules 5 then ((c.1, rulesP w, c.2.2), !lineBad c w)
  else bif (bif (bif isLine w wLink 3 then decide (numP (w.getD 2 []) ≥ 0) else false) then decide (numP (w.getD 2 []) ≤ 65536) else false) then ((c.1, c.2.1, (csetF c.2.2 (nodeR (w.getD 1 [])) (IntKind.wrap IntKind.u32 (numP (w.getD 2 [])))).1), (csetF c.2.2 (nodeR (w.getD 1 [])) (IntKind.wrap IntKind.u32 (numP (w.getD 2 [])))).2 == (0 : Int))
  else (c, false)
theorem lowest_in (s : Int) (h : ((elemsF s 16).length : Int) = 1) : 0 ≤ lowestF s := by
  unfold lowestF
  cases hl : elemsF s 16 with
  | nil => rw [hl] at h; cases h
  | cons j l => exact (elem_in (Nat.le_refl 16) (by rw [hl]; simp)).1
theorem node_good {s : List UInt8} (h : nodeBad s = false) : 0 ≤ nodeP s := by
  unfold nodeBad at h
  cases hc : (nparseF s).2 != (0 : Int) with
  | true => rw [hc] at h; cases h
  | false =>
    rw [hc] at h
    have h2 : (((elemsF (nparseF s).1 16).length : Int) != 1) = false := h
    exact lowest_in _ (by simpa using h2)
theorem set_none (c : DCosts) (v : Int) : ((csetF c (-1) v).2 == (0 : Int)) = false := by
  unfold csetF
  rfl
theorem line_same (c : DConf) (w : List (List UInt8)) : (lineR c w).2 = !lineBad c w ∧ (lineBad c w = false → (lineR c w).1 = lineN c w) := by
  cases hA : isLine w wNode 2 with
  | true =>
    obtain ⟨b1, b2⟩ := lb_node (c := c) hA
    unfold lineR
    rw [hA, b1, b2]
    simp only [cond_true]
    unfold nodeR
    cases hb : nodeBad (w.getD 1 []) with
    | true => exact ⟨rfl, fun h => by cases h⟩
    | false =>
      have := node_good hb
      exact ⟨decide_eq_true this, fun _ => rfl⟩
  | false =>
    cases hB : isLine w wRules 5 with
    | true =>
      obtain ⟨b1, b2⟩ := lb_rules (c := c) hA hB
      unfold lineR
      rw [hA, hB, b2]
      exact ⟨rfl, fun _ => rfl⟩
    | false =>
      cases hC : isLine w wLink 3 with
      | false =>
        rw [lb_none hA hB hC]
        unfold lineR
        rw [hA, hB, hC]
        exact ⟨rfl, fun h => by cases h⟩
      | true =>
        obtain ⟨b1, b2⟩ := lb_link (c := c) hA hB hC
        unfold lineR
        rw [hA, hB, hC, b1, b2]
        simp only [cond_true, cond_false]
        by_cases hneg : numP (w.getD 2 []) < 0
        · rw [show negP (numP (w.getD 2 [])) = true from decide_eq_true hneg, decide_eq_false (show ¬ numP (w.getD 2 []) ≥ 0 by omega)]
          cases nodeBad (w.getD 1 []) <;> exact ⟨rfl, fun h => by cases h⟩
        · rw [show negP (numP (w.getD 2 [])) = false from decide_eq_false hneg, decide_eq_true (show numP (w.getD 2 []) ≥ 0 by omega)]
          by_cases hbig : numP (w.getD 2 []) ≤ 65536
          · rw [decide_eq_true hbig, decide_eq_false (show ¬ numP (w.getD 2 []) > 65536 by omega)]
            unfold nodeR setP
            cases hb : nodeBad (w.getD 1 []) with
            | true =>
              simp only [cond_true, cond_false]
              exact ⟨set_none _ _, fun h => by cases h⟩
            | false =>
              simp only [cond_true, cond_false]
              refine ⟨?_, fun _ => by first | rfl | trivial⟩
              unfold bne
              rw [Bool.not_not]
          · rw [decide_eq_false hbig, decide_eq_true (show numP (w.getD 2 []) > 65536 by omega)]
            cases nodeBad (w.getD 1 []) <;> exact ⟨rfl, fun h => by cases h⟩
theorem min4 (a b c d : Int) : decide ((if d < if c < if b < a then b else a then c else if b < a then b else a then d else if c < if b < a then b else a then c else if b < a then b else a) ≥ (0 : Int)) = !(bif negP a then true else bif negP b then true else bif negP c then true else negP d) := by
  unfold negP
  by_cases ha : a < 0
  · rw [decide_eq_true ha]
    simp only [cond_true, Bool.not_true]
    exact decide_eq_false (by split <;> split <;> split <;> omega)
  · by_cases hb : b < 0
    · rw [decide_eq_false ha, decide_eq_true hb]
      simp only [cond_true, cond_false, Bool.not_true]
      exact decide_eq_false (by split <;> split <;> split <;> omega)
    · by_cases hc : c < 0
      · rw [decide_eq_false ha, decide_eq_false hb, decide_eq_true hc]
        simp only [cond_true, cond_false, Bool.not_true]
        exact decide_eq_false (by split <;> split <;> split <;> omega)
      · by_cases hd : d < 0
        · rw [decide_eq_false ha, decide_eq_false hb, decide_eq_false hc, decide_eq_true hd]
          simp only [cond_false, Bool.not_true]
          exact decide_eq_false (by split <;> split <;> split <;> omega)
        · rw [decide_eq_false ha, decide_eq_false hb, decide_eq_false hc, decide_eq_false hd]
          simp only [cond_false, Bool.not_false]
          exact decide_eq_true (by split <;> split <;> split <;> omega)
theorem ns_rules {l : List (List UInt8)} {i : Int} (hl : (l.length : Int) = 5) (h1 : 1 ≤ i) (h2 : i ≤ 5) (h4 : i < (l.length : Int) → 4 < i) : nsN l i = [numP (l.getD 1 []), numP (l.getD 2 []), numP (l.getD 3 []), numP (l.getD 4 [])] := by
  have : i = 5 := by omega
  subst this
  rfl
theorem ns_link {l : List (List UInt8)} {i : Int} (hl : (l.length : Int) = 3) (h1 : 1 ≤ i) (h3 : i ≤ (l.length : Int) ∨ i = 1) (h4 : i < (l.length : Int) → 4 < i) : (nsN l i).getD 1 0 = numP (l.getD 2 []) := by
  have : i = 3 := by omega
  subst this
  rfl
theorem numP_end {s : List UInt8} {n : Int} (hn : numGo 1073741824 s 0 = some n) : (bif (bif s == [] then true else !(natT n.toNat == s)) then -1 else n) = numP s := by
  unfold numP
  rw [hn]
  simp only
  by_cases hs : s = []
  · rw [hs]; rfl
  · have : (s == []) = false := by simpa using hs
    rw [this, num_text hn hs, Bool.not_not]
theorem numP_low {n : Int} {s : List UInt8} (hn : numGo 1073741824 s 0 = some n) : n < 10000000000000000000 := by
  have := num_top (top := 1073741824) (by omega) s 0 n (Int.le_refl _) (by omega) hn
  omega
theorem node_first {s : List UInt8} (h : nodeBad s = false) : 0 < (elemsF (nparseF s).1 16).length ∧ (elemsF (nparseF s).1 16).getD 0 0 = nodeP s := by
  unfold nodeBad at h
  cases hc : (nparseF s).2 != (0 : Int) with
  | true => rw [hc] at h; cases h
  | false =>
    rw [hc] at h
    have h2 : (((elemsF (nparseF s).1 16).length : Int) != 1) = false := h
    have h3 : ((elemsF (nparseF s).1 16).length : Int) = 1 := by simpa using h2
    unfold nodeP lowestF
    cases hl : elemsF (nparseF s).1 16 with
    | nil => rw [hl] at h3; cases h3
    | cons j l => exact ⟨by simp, rfl⟩
end Go.Ev
/- The document's way to read all lines. -/
set_option linter.unusedVariables false
set_option linter.unusedSimpArgs false
namespace Go.Ev
abbrev RpfS := (List UInt8 × Int × Int × Int × Int × Int × Int × Unit) × (DConf × DConf × Unit)
def rpfB (x : RpfS) : Int := ((x.1.1.getD x.1.2.2.2.2.2.2.1.toNat 0).toNat : Int)
def rpfL (x : RpfS) : DConf × Bool := lineR x.2.2.1 (wordsF ((x.1.1.take x.1.2.2.2.2.2.2.1.toNat).drop x.1.2.2.2.1.toNat))
def rpfStp (x : RpfS) : Ex × RpfS :=
  bif decide (x.1.2.2.2.2.2.2.1 < x.1.2.2.2.2.2.1) then
    bif rpfB x != (10 : Int) then (.normal, ((x.1.1, x.1.2.1, x.1.2.2.1, x.1.2.2.2.1, x.1.2.2.2.2.1, x.1.2.2.2.2.2.1, x.1.2.2.2.2.2.2.1 + 1, ()), x.2))
    else bif !(rpfL x).2 then (.ret, ((x.1.1, x.1.2.2.2.2.1 + 1, 3, x.1.2.2.2.1, x.1.2.2.2.2.1 + 1, x.1.2.2.2.2.2.1, x.1.2.2.2.2.2.2.1, ()), zeroConf, x.2.2.1, ()))
    else (.normal, ((x.1.1, x.1.2.1, x.1.2.2.1, x.1.2.2.2.2.2.2.1 + 1, x.1.2.2.2.2.1 + 1, x.1.2.2.2.2.2.1, x.1.2.2.2.2.2.2.1 + 1, ()), x.2.1, (rpfL x).1, ()))
  else (.exit 0, x)
def rpfMu (x : RpfS) : Nat := (x.1.2.2.2.2.2.1 - x.1.2.2.2.2.2.2.1).toNat
def rpfPre (x : RpfS) : Prop := 0 ≤ x.1.2.2.2.1 ∧ x.1.2.2.2.1 ≤ x.1.2.2.2.2.2.2.1 ∧ x.1.2.2.2.2.2.2.1 ≤ x.1.2.2.2.2.2.1 ∧ x.1.2.2.2.2.2.1 = (x.1.1.length : Int) ∧ x.1.2.2.2.2.2.1 ≤ 2000 ∧ 0 ≤ x.1.2.2.2.2.1 ∧ x.1.2.2.2.2.1 ≤ x.1.2.2.2.2.2.2.1
theorem rpfStp_ends (x : RpfS) : (rpfStp x).1 = .normal ∨ (rpfStp x).1 = .exit 0 ∨ (rpfStp x).1 = .ret := by
  unfold rpfStp
  cases decide (x.1.2.2.2.2.2.2.1 < x.1.2.2.2.2.2.1) <;> cases rpfB x != (10 : Int) <;> cases !(rpfL x).2 <;> simp
theorem rpf_go {x : RpfS} (hp : rpfPre x) (h : (rpfStp x).1 = .normal) : rpfPre (rpfStp x).2 ∧ rpfMu (rpfStp x).2 < rpfMu x := by
  have hc : ∀ b b2 : Bool, (rpfB x != (10 : Int)) = b → (!(rpfL x).2) = b2 → rpfPre (rpfStp x).2 ∧ rpfMu (rpfStp x).2 < rpfMu x := by
    intro b b2 hb hb2
    obtain ⟨⟨s, e3, e4, a, n, len, i, ⟨⟩⟩, c2, c, ⟨⟩⟩ := x
    obtain ⟨h1, h2, h3, h4, h5, h6, h7⟩ := hp
    simp only at h1 h2 h3 h4 h5 h6 h7
    unfold rpfStp at h ⊢
    rw [hb, hb2] at h ⊢
    simp only at h ⊢
    by_cases hlt : i < len
    · rw [decide_eq_true hlt] at h ⊢
      cases b with
      | true =>
        refine ⟨⟨?_, ?_, ?_, h4, h5, ?_, ?_⟩, ?_⟩
        all_goals simp only [cond_true, rpfMu]
        all_goals omega
      | false =>
        cases b2 with
        | true => cases h
        | false =>
          refine ⟨⟨?_, ?_, ?_, h4, h5, ?_, ?_⟩, ?_⟩
          all_goals simp only [cond_true, cond_false, rpfMu]
          all_goals omega
    · rw [decide_eq_false hlt] at h
      cases h
  exact hc _ _ rfl rfl
def rpfEnd (s : List UInt8) (r : DConf × Int × Int) (p : Ex × RpfS) : Prop := (p.1 = .ret ∧ r = (zeroConf, p.2.1.2.1, p.2.1.2.2.1) ∧ p.2.2.1 = zeroConf ∧ (p.2.1.2.2.1 != (0 : Int)) = true) ∨
  (p.1 = .exit 0 ∧ p.2.1.1 = s ∧ 0 ≤ p.2.1.2.2.2.2.1 ∧ p.2.1.2.2.2.2.1 ≤ 2000 ∧ r = bif decide (p.2.1.2.2.2.1 < (s.length : Int)) then (zeroConf, p.2.1.2.2.2.2.1 + 1, 2) else (p.2.2.2.1, 0, 0))
theorem rpf_run {s : List UInt8} {r : DConf × Int × Int} : ∀ (n : Nat) (x : RpfS), (rpfPre x ∧ x.1.1 = s ∧ parGo (s.drop x.1.2.2.2.2.2.2.1.toNat) ((s.take x.1.2.2.2.2.2.2.1.toNat).drop x.1.2.2.2.1.toNat) (x.1.2.2.2.2.1 + 1) x.2.2.1 = r) → rpfMu x < n → rpfEnd s r (runF rpfStp n x) :=
  runF_inv fun x hx => by
    obtain ⟨hp, hs, hw⟩ := hx
    have hgo := rpf_go hp
    obtain ⟨⟨s', e3, e4, a, n, len, i, ⟨⟩⟩, c2, c, ⟨⟩⟩ := x
    obtain ⟨h1, h2, h3, h4, h5, h6, h7⟩ := hp
    simp only at h1 h2 h3 h4 h5 h6 h7 hs hw
    subst hs
    by_cases hlt : i < len
    · have hn : i.toNat < s'.length := by omega
      have e1 : (i + 1).toNat = i.toNat + 1 := by omega
      rw [drop_at hn, parGo] at hw
      have hb : rpfB ((s', e3, e4, a, n, len, i, ()), c2, c, ()) = ((s'.getD i.toNat 0).toNat : Int) := rfl
      have hcase : (((s'.getD i.toNat 0).toNat : Int) != (10 : Int)) = !(s'.getD i.toNat 0 == 10) := by
        unfold bne
        congr 1
        rw [Bool.eq_iff_iff]
        simp only [beq_iff_eq]
        constructor
        · intro h
          apply UInt8.toNat_inj.1
          show _ = 10
          omega
        · intro h
          rw [h]; rfl
      cases hc : s'.getD i.toNat 0 == 10 with
      | false =>
        rw [hc] at hw hcase
        have hst : rpfStp ((s', e3, e4, a, n, len, i, PUnit.unit), c2, c, PUnit.unit) = (.normal, ((s', e3, e4, a, n, len, i + 1, ()), c2, c, ())) := by
          unfold rpfStp
          rw [show rpfB ((s', e3, e4, a, n, len, i, PUnit.unit), c2, c, PUnit.unit) = ((s'.getD i.toNat 0).toNat : Int) from rfl, hcase]
          simp only
          rw [decide_eq_true hlt]
          rfl
        refine ⟨fun h => ⟨⟨(hgo h).1, ?_⟩, (hgo h).2⟩, fun h => ?_⟩
        · rw [hst]
          refine ⟨rfl, ?_⟩
          show parGo (s'.drop (i + 1).toNat) ((s'.take (i + 1).toNat).drop a.toNat) (n + 1) c = r
          rw [e1, cur_more hn (by omega)]
          exact hw
        · rw [hst] at h
          exact absurd rfl h
      | true =>
        rw [hc] at hw hcase
        simp only [cond_true] at hw
        obtain ⟨q1, q2⟩ := line_same c (wordsF ((s'.take i.toNat).drop a.toNat))
        have hL : rpfL ((s', e3, e4, a, n, len, i, PUnit.unit), c2, c, PUnit.unit) = lineR c (wordsF ((s'.take i.toNat).drop a.toNat)) := rfl
        cases hbad : lineBad c (wordsF ((s'.take i.toNat).drop a.toNat)) with
        | true =>
          rw [hbad] at hw q1
          have hst : rpfStp ((s', e3, e4, a, n, len, i, PUnit.unit), c2, c, PUnit.unit) = (.ret, ((s', n + 1, 3, a, n + 1, len, i, ()), zeroConf, c, ())) := by
            unfold rpfStp
            rw [show rpfB ((s', e3, e4, a, n, len, i, PUnit.unit), c2, c, PUnit.unit) = ((s'.getD i.toNat 0).toNat : Int) from rfl, hcase, hL, q1]
            simp only
            rw [decide_eq_true hlt]
            rfl
          refine ⟨fun h => ?_, fun _ => ?_⟩
          · rw [hst] at h
            cases h
          · rw [hst]
            exact .inl ⟨rfl, hw.symm, rfl, rfl⟩
        | false =>
          rw [hbad] at hw q1
          have hst : rpfStp ((s', e3, e4, a, n, len, i, PUnit.unit), c2, c, PUnit.unit) = (.normal, ((s', e3, e4, i + 1, n + 1, len, i + 1, ()), c2, lineN c (wordsF ((s'.take i.toNat).drop a.toNat)), ())) := by
            unfold rpfStp
            rw [show rpfB ((s', e3, e4, a, n, len, i, PUnit.unit), c2, c, PUnit.unit) = ((s'.getD i.toNat 0).toNat : Int) from rfl, hcase, hL, q1, q2 hbad]
            simp only
            rw [decide_eq_true hlt]
            rfl
          refine ⟨fun h => ⟨⟨(hgo h).1, ?_⟩, (hgo h).2⟩, fun h => ?_⟩
          · rw [hst]
            refine ⟨rfl, ?_⟩
            show parGo (s'.drop (i + 1).toNat) ((s'.take (i + 1).toNat).drop (i + 1).toNat) (n + 1 + 1) (lineN c (wordsF ((s'.take i.toNat).drop a.toNat))) = r
            rw [e1, drop_nil_le (l := s'.take (i.toNat + 1)) (by rw [List.length_take]; omega)]
            exact hw
          · rw [hst] at h
            exact absurd rfl h
    · have hst : rpfStp ((s', e3, e4, a, n, len, i, PUnit.unit), c2, c, PUnit.unit) = (.exit 0, ((s', e3, e4, a, n, len, i, ()), c2, c, ())) := by
        unfold rpfStp
        simp only
        rw [decide_eq_false hlt]
        rfl
      refine ⟨fun h => ?_, fun _ => ?_⟩
      · rw [hst] at h
        cases h
      · rw [hst]
        refine .inr ⟨rfl, rfl, h6, ?_, ?_⟩
        · show n ≤ 2000; omega
        · show r = bif decide (a < (s'.length : Int)) then (zeroConf, n + 1, 2) else (c, 0, 0)
          rw [← hw, drop_nil_le (l := s') (i := i.toNat) (by omega), List.take_of_length_le (by omega), parGo]
          by_cases ha : a < (s'.length : Int)
          · rw [decide_eq_true ha]
            have : (s'.drop a.toNat == []) = false := by
              have hne : s'.drop a.toNat ≠ [] := by
                intro e
                have := congrArg List.length e
                rw [List.length_drop] at this
                simp at this
                omega
              simpa using hne
            rw [this]; rfl
          · rw [decide_eq_false ha, drop_nil_le (l := s') (i := a.toNat) (by omega)]
            rfl
def rpfSt (s : List UInt8) : RpfS := ((s, 0, 0, 0, 0, (s.length : Int), 0, ()), zeroConf, zeroConf, ())
theorem rpf_all {s : List UInt8} (h : s.length ≤ 2000) : rpfPre (rpfSt s) ∧ rpfEnd s (parGo s [] 1 zeroConf) (runF rpfStp (rpfMu (rpfSt s) + 1) (rpfSt s)) := by
  have hp : rpfPre (rpfSt s) := ⟨Int.le_refl _, Int.le_refl _, by show (0 : Int) ≤ (s.length : Int); omega, rfl, by show (s.length : Int) ≤ _; omega, Int.le_refl _, Int.le_refl _⟩
  exact ⟨hp, rpf_run _ _ ⟨hp, rfl, by simp [rpfSt]⟩ (Nat.lt_succ_self _)⟩
end Go.Ev
/- What is printed of a configuration is parsed. -/
set_option linter.unusedVariables false
set_option linter.unusedSimpArgs false
namespace Go.Ev
theorem parEnd_ok {s : List UInt8} {r : DConf × Int × Int} : ((parEnd s r).2.2 != (0 : Int)) = false → (printF (parEnd s r).1).2 = 0 ∧ (printF (parEnd s r).1).1 = s ∧ (parEnd s r).2 = (0, 0) := by
  unfold parEnd
  cases h1 : r.2.2 != (0 : Int) with
  | true => simp only [cond_true]; intro h; rw [h1] at h; cases h
  | false =>
    simp only [cond_false]
    cases h2 : (printF r.1).2 != (0 : Int) with
    | true => simp only [cond_true]; intro h; cases h
    | false =>
      simp only [cond_false]
      cases h3 : (printF r.1).1 == s with
      | false => simp only [Bool.not_false, cond_true]; intro h; cases h
      | true =>
        simp only [Bool.not_true, cond_false]
        intro _
        exact ⟨by simpa using h2, by simpa using h3, by first | rfl | trivial⟩
theorem parse_good {s : List UInt8} (h : ((parseF s).2.2 != (0 : Int)) = false) : (printF (parseF s).1).2 = 0 ∧ (printF (parseF s).1).1 = s := by
  unfold parseF at h ⊢
  cases hl : decide ((s.length : Int) > 2000) with
  | true => rw [hl] at h; cases h
  | false =>
    rw [hl] at h
    simp only [cond_false] at h ⊢
    have := parEnd_ok h
    exact ⟨this.1, this.2.1⟩
theorem par_zero : ∀ (l cur : List UInt8) (n : Int) (c : DConf), ((parGo l cur n c).2.2 != (0 : Int)) = true → (parGo l cur n c).1 = zeroConf
  | [], cur, n, c => by
    rw [parGo]
    cases cur == [] with
    | true => intro h; cases h
    | false => intro _; rfl
  | b :: l, cur, n, c => by
    rw [parGo]
    cases b == 10 with
    | false => exact par_zero l _ n c
    | true =>
      simp only [cond_true]
      cases lineBad c (wordsF cur) with
      | true => intro _; rfl
      | false => exact par_zero l [] _ _
theorem parse_bad {s : List UInt8} (h : ((parseF s).2.2 != (0 : Int)) = true) : (parseF s).1 = zeroConf := by
  unfold parseF at h ⊢
  cases hl : decide ((s.length : Int) > 2000) with
  | true => rfl
  | false =>
    rw [hl] at h
    simp only [cond_false] at h ⊢
    unfold parEnd at h ⊢
    cases h1 : (parGo s [] 1 zeroConf).2.2 != (0 : Int) with
    | true => simp only [cond_true]; exact par_zero _ _ _ _ h1
    | false =>
      rw [h1] at h
      simp only [cond_false] at h ⊢
      cases h2 : (bif (printF (parGo s [] 1 zeroConf).1).2 != (0 : Int) then true else !((printF (parGo s [] 1 zeroConf).1).1 == s)) with
      | true => rfl
      | false => rw [h2] at h; cases h
/-! Back -/
theorem digN_not (b : UInt8) (hb : b.toNat < 48) (n : Nat) : b ∉ natT n := fun h => by
  have := digN_no 20 n b h
  omega
theorem numP_nat {n : Int} (h0 : 0 ≤ n) (h1 : n ≤ 1073741824) : numP (natT n.toNat) = n := by
  have hb : n.toNat < 10 ^ 20 := by
    have : (10 : Nat) ^ 20 = 100000000000000000000 := by decide
    omega
  have hg : numGo 1073741824 (natT n.toNat) 0 = some (n.toNat : Int) := num_digits 20 n.toNat hb (by omega) (by omega)
  have hne : (natT n.toNat == []) = false := by
    have := digN_ne 20 n.toNat (by omega)
    simpa [natT] using this
  have := numP_some (s := natT n.toNat) (by rw [hne, lz_digits hb]; rfl) hg
  rw [this.1]
  omega
theorem let_node {j : Int} (h0 : 0 ≤ j) (h1 : j < 16) : nodeBad [letF j] = false ∧ nodeP [letF j] = j := by
  obtain ⟨_, e2, e3, _, e5⟩ := one_text h0 h1
  unfold nodeBad nodeP
  rw [e2]
  simp only
  rw [e5]
  exact ⟨rfl, e3⟩
theorem let_ten {j : Int} (h0 : 0 ≤ j) (h1 : j < 16) : letF j ≠ 10 :=
  node_cases (p := fun j => letF j ≠ 10) h0 h1 (by refine ⟨?_, ?_, ?_, ?_, ?_, ?_, ?_, ?_, ?_, ?_, ?_, ?_, ?_, ?_, ?_, ?_⟩ <;> decide)
def lnkT (c : DCosts) (j : Int) : List UInt8 := wLink ++ 32 :: ([letF j] ++ 32 :: natT (c.2.getD j.toNat 0).toNat)
theorem lineB_lnk {c : DCosts} {j : Int} (h0 : 0 ≤ j) (h1 : j < 16) : lineB c j = lnkT c j ++ [10] := by
  unfold lineB lnkT wLink
  rw [(one_text h0 h1).1]
  simp only [List.append_assoc, List.cons_append, List.nil_append]
theorem lnk_words {c : DCosts} {j : Int} (h0 : 0 ≤ j) (h1 : j < 16) : wordsF (lnkT c j) = [wLink, [letF j], natT (c.2.getD j.toNat 0).toNat] := by
  have hl := (one_text h0 h1).2.2.2.1
  unfold wordsF lnkT
  rw [words_cons wLink [] _ (by decide), words_cons [letF j] [] _ (by intro b hb; rw [List.mem_singleton.1 hb]; exact hl), words_end _ [] (by
    intro b hb e
    rw [e] at hb
    exact digN_not 32 (by decide) _ hb)]
  rfl
theorem lnk_ten {c : DCosts} {j : Int} (h0 : 0 ≤ j) (h1 : j < 16) : (10 : UInt8) ∉ lnkT c j := by
  unfold lnkT
  intro h
  simp only [List.mem_append, List.mem_cons, List.not_mem_nil, or_false] at h
  rcases h with h | h | h | h | h
  · revert h; decide
  · revert h; decide
  · exact let_ten h0 h1 h.symm
  · revert h; decide
  · exact digN_not 10 (by decide) _ h
theorem par_link {c : DCosts} {j : Int} (h0 : 0 ≤ j) (h1 : j < 16) (hr : rcostF (c.2.getD j.toNat 0) = true) (a : DConf) (q : List UInt8) (n : Int) : parGo (lineB c j ++ q) [] n a = parGo q [] (n + 1) (a.1, a.2.1, addC c a.2.2 j) := by
  have hc := rcost_in hr
  rw [lineB_lnk h0 h1, List.append_assoc]
  show parGo (lnkT c j ++ 10 :: q) [] n a = _
  rw [par_line _ _ _ _ _ (lnk_ten h0 h1), List.nil_append, lnk_words h0 h1]
  have hA : isLine [wLink, [letF j], natT (c.2.getD j.toNat 0).toNat] wNode 2 = false := rfl
  have hB : isLine [wLink, [letF j], natT (c.2.getD j.toNat 0).toNat] wRules 5 = false := rfl
  have hC : isLine [wLink, [letF j], natT (c.2.getD j.toNat 0).toNat] wLink 3 = true := rfl
  obtain ⟨b1, b2⟩ := lb_link (c := a) hA hB hC
  obtain ⟨g1, g2⟩ := let_node h0 h1
  have e2 : ([wLink, [letF j], natT (c.2.getD j.toNat 0).toNat].getD 1 []) = [letF j] := rfl
  have e3 : ([wLink, [letF j], natT (c.2.getD j.toNat 0).toNat].getD 2 []) = natT (c.2.getD j.toNat 0).toNat := rfl
  have hn := numP_nat (n := c.2.getD j.toNat 0) (by omega) (by omega)
  have hs : setP a [wLink, [letF j], natT (c.2.getD j.toNat 0).toNat] = (addC c a.2.2 j, 0) := by
    unfold setP
    rw [e2, e3, hn, g2, u32_id (by omega) (by omega)]
    exact set_add h0 h1 hr
  rw [b1, b2, e2, e3, hn, g1, hs, show negP (c.2.getD j.toNat 0) = false from decide_eq_false (by omega), decide_eq_false (show ¬ c.2.getD j.toNat 0 > 65536 by omega)]
  rfl
theorem par_links {c : DCosts} : ∀ (l : List Int) (a : DConf) (n : Int), (∀ j ∈ l, 0 ≤ j ∧ j < 16 ∧ rcostF (c.2.getD j.toNat 0) = true) → parGo (linesB c l) [] n a = ((a.1, a.2.1, l.foldl (addC c) a.2.2), 0, 0)
  | [], a, n, _ => rfl
  | j :: l, a, n, h => by
    obtain ⟨h0, h1, h2⟩ := h j (by simp)
    rw [lines_cons, par_link h0 h1 h2, par_links l _ _ (fun i hi => h i (by simp [hi]))]
    rfl
def nodeT (n : Int) : List UInt8 := wNode ++ 32 :: [letF n]
def ruleT (r : DRules) : List UInt8 := wRules ++ 32 :: (natT r.1.toNat ++ 32 :: (natT r.2.1.toNat ++ 32 :: (natT r.2.2.1.toNat ++ 32 :: natT r.2.2.2.toNat)))
theorem head_lines {c : DConf} (h0 : 0 ≤ c.1) (h1 : c.1 < 16) (b1 : numBad c.2.1.1 = false) (b2 : numBad c.2.1.2.1 = false) (b3 : numBad c.2.1.2.2.1 = false) (b4 : numBad c.2.1.2.2.2 = false) : headT c = nodeT c.1 ++ 10 :: (ruleT c.2.1 ++ [10]) := by
  rw [← head_text b1 b2 b3 b4]
  unfold nodeT ruleT wNode wRules
  rw [(one_text h0 h1).1]
  simp only [List.append_assoc, List.cons_append, List.nil_append]
theorem node_line {n : Int} (h0 : 0 ≤ n) (h1 : n < 16) (a : DConf) (q : List UInt8) (k : Int) : parGo (nodeT n ++ 10 :: q) [] k a = parGo q [] (k + 1) (n, a.2) := by
  have hten : (10 : UInt8) ∉ nodeT n := by
    unfold nodeT
    intro h
    simp only [List.mem_append, List.mem_cons, List.not_mem_nil, or_false] at h
    rcases h with h | h | h
    · revert h; decide
    · revert h; decide
    · exact let_ten h0 h1 h.symm
  have hw : wordsF (nodeT n) = [wNode, [letF n]] := by
    unfold wordsF nodeT
    rw [words_cons wNode [] _ (by decide), words_end _ [] (by intro b hb; rw [List.mem_singleton.1 hb]; exact (one_text h0 h1).2.2.2.1)]
    rfl
  rw [par_line _ _ _ _ _ hten, List.nil_append, hw]
  have hA : isLine [wNode, [letF n]] wNode 2 = true := rfl
  obtain ⟨c1, c2⟩ := lb_node (c := a) hA
  obtain ⟨g1, g2⟩ := let_node h0 h1
  have e2 : ([wNode, [letF n]].getD 1 []) = [letF n] := rfl
  rw [c1, c2, e2, g1, g2]
  rfl
theorem rule_line {r : DRules} (b1 : numBad r.1 = false) (b2 : numBad r.2.1 = false) (b3 : numBad r.2.2.1 = false) (b4 : numBad r.2.2.2 = false) (a : DConf) (q : List UInt8) (k : Int) : parGo (ruleT r ++ 10 :: q) [] k a = parGo q [] (k + 1) (a.1, r, a.2.2) := by
  have hten : (10 : UInt8) ∉ ruleT r := by
    unfold ruleT
    intro h
    simp only [List.mem_append, List.mem_cons] at h
    rcases h with h | h | h | h | h | h | h | h | h
    · revert h; decide
    · revert h; decide
    · exact digN_not 10 (by decide) _ h
    · revert h; decide
    · exact digN_not 10 (by decide) _ h
    · revert h; decide
    · exact digN_not 10 (by decide) _ h
    · revert h; decide
    · exact digN_not 10 (by decide) _ h
  have hd : ∀ n : Nat, ∀ b ∈ natT n, b ≠ 32 := fun n b hb e => by
    rw [e] at hb
    exact digN_not 32 (by decide) n hb
  have hw : wordsF (ruleT r) = [wRules, natT r.1.toNat, natT r.2.1.toNat, natT r.2.2.1.toNat, natT r.2.2.2.toNat] := by
    unfold wordsF ruleT
    rw [words_cons wRules [] _ (by decide), words_cons _ [] _ (hd _), words_cons _ [] _ (hd _), words_cons _ [] _ (hd _), words_end _ [] (hd _)]
    rfl
  rw [par_line _ _ _ _ _ hten, List.nil_append, hw]
  have q1 := numBad_no b1
  have q2 := numBad_no b2
  have q3 := numBad_no b3
  have q4 := numBad_no b4
  have hA : isLine [wRules, natT r.1.toNat, natT r.2.1.toNat, natT r.2.2.1.toNat, natT r.2.2.2.toNat] wNode 2 = false := rfl
  have hB : isLine [wRules, natT r.1.toNat, natT r.2.1.toNat, natT r.2.2.1.toNat, natT r.2.2.2.toNat] wRules 5 = true := rfl
  obtain ⟨c1, c2⟩ := lb_rules (c := a) hA hB
  have e : rulesP [wRules, natT r.1.toNat, natT r.2.1.toNat, natT r.2.2.1.toNat, natT r.2.2.2.toNat] = r := by
    show (numP (natT r.1.toNat), numP (natT r.2.1.toNat), numP (natT r.2.2.1.toNat), numP (natT r.2.2.2.toNat)) = r
    rw [numP_nat q1.1 q1.2, numP_nat q2.1 q2.2, numP_nat q3.1 q3.2, numP_nat q4.1 q4.2]
  rw [c1, c2, e, show negP r.1 = false from decide_eq_false (by omega), show negP r.2.1 = false from decide_eq_false (by omega), show negP r.2.2.1 = false from decide_eq_false (by omega), show negP r.2.2.2 = false from decide_eq_false (by omega)]
  rfl
theorem linesB_len (c : DCosts) : ∀ l : List Int, (linesB c l).length ≤ 60 * l.length
  | [] => by simp [linesB]
  | j :: l => by
    have h1 := lineB_len c j
    have h2 := linesB_len c l
    rw [lines_cons, List.length_append, List.length_cons]
    omega
theorem print_cases {c : DConf} (h : ((printF c).2 == (0 : Int)) = true) : (0 ≤ c.1 ∧ c.1 < 16) ∧ soundF c.2.2 = true ∧ (numBad c.2.1.1 = false ∧ numBad c.2.1.2.1 = false ∧ numBad c.2.1.2.2.1 = false ∧ numBad c.2.1.2.2.2 = false) ∧ printF c = (headT c ++ linesB c.2.2 (elemsF c.2.2.1 16), 0) := by
  cases h1 : rightF c.1 with
  | false => unfold printF at h; rw [h1] at h; cases h
  | true =>
    cases h2 : soundF c.2.2 with
    | false => unfold printF at h; rw [h1, h2] at h; cases h
    | true =>
      have hA : (bif !rightF c.1 then true else !soundF c.2.2) = false := by rw [h1, h2]; rfl
      cases h3 : rulesBad c.2.1 with
      | true => unfold printF at h; rw [hA, h3] at h; cases h
      | false =>
        refine ⟨rightF_iff.1 h1, rfl, ?_, (print_good hA h3).symm⟩
        unfold rulesBad at h3
        cases g1 : numBad c.2.1.1 <;> cases g2 : numBad c.2.1.2.1 <;> cases g3 : numBad c.2.1.2.2.1 <;> cases g4 : numBad c.2.1.2.2.2 <;> rw [g1, g2, g3, g4] at h3 <;> first | (cases h3; done) | exact ⟨rfl, rfl, rfl, rfl⟩
/-- What is printed is parsed. -/
theorem print_parse {c : DConf} (hl : c.2.2.2.length = 16) (h : ((printF c).2 == (0 : Int)) = true) : parseF (printF c).1 = (c, 0, 0) := by
  obtain ⟨⟨n0, n1⟩, hs, ⟨b1, b2, b3, b4⟩, hp⟩ := print_cases h
  have hsnd : sndP c.2.2 := ⟨hs, hl⟩
  have hpar : parGo (headT c ++ linesB c.2.2 (elemsF c.2.2.1 16)) [] 1 zeroConf = (c, 0, 0) := by
    rw [head_lines n0 n1 b1 b2 b3 b4, List.append_assoc, List.cons_append, List.append_assoc]
    rw [node_line n0 n1]
    show parGo (ruleT c.2.1 ++ 10 :: linesB c.2.2 (elemsF c.2.2.1 16)) [] _ _ = _
    rw [rule_line b1 b2 b3 b4, par_links _ _ _ (sound_in hsnd)]
    show ((c.1, c.2.1, (elemsF c.2.2.1 16).foldl (addC c.2.2) zeroC), (0 : Int), (0 : Int)) = _
    rw [sound_fold hsnd]
  have hlen : ¬ ((headT c ++ linesB c.2.2 (elemsF c.2.2.1 16)).length : Int) > 2000 := by
    have h1 := linesB_len c.2.2 (elemsF c.2.2.1 16)
    have h2 := elems_len c.2.2.1 16
    have h3 : (headT c).length ≤ 120 := by
      have q1 := itoaF_len c.2.1.1
      have q2 := itoaF_len c.2.1.2.1
      have q3 := itoaF_len c.2.1.2.2.1
      have q4 := itoaF_len c.2.1.2.2.2
      unfold headT
      rw [(one_text n0 n1).1]
      simp only [List.length_append, List.length_cons, List.length_nil]
      omega
    rw [List.length_append]
    omega
  have hok : parEnd (headT c ++ linesB c.2.2 (elemsF c.2.2.1 16)) (c, 0, 0) = (c, 0, 0) := by
    unfold parEnd
    simp only
    rw [hp]
    simp
  rw [hp]
  unfold parseF
  rw [decide_eq_false hlen, hpar]
  exact hok
end Go.Ev
