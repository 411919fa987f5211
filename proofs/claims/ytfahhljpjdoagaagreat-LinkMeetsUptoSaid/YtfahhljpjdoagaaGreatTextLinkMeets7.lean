/- A link, in plain Lean: what one end sends comes at the other one, and is acknowledged. -/
import Derived.Test.YtfahhljpjdoagaaGreatTextLinkMeets6

set_option linter.unusedVariables false
set_option linter.unusedSimpArgs false
namespace Go.Ev
theorem wtake_next {F : Nat → DPart} (hF : ∀ i, (F i).2.2.1 = (i : Int)) {N q : Nat} (hN : N ≤ 60000) (hq : q < N) (hp : PartIn (F q)) : wtakeF ((q : Int), []) (F q) = ((((q + 1 : Nat) : Int), []), [F q], 0) := by
  have hs := hF q
  have hn : nearF (q : Int) = true := near_iff.2 ⟨by omega, by omega⟩
  have hnq : nearF (F q).2.2.1 = true := near_iff.2 ⟨by rw [hs]; omega, by rw [hs]; omega⟩
  have ha : aheadS (F q).2.2.1 (q : Int) = 0 := by
    unfold aheadS
    rw [hn, hnq, decide_eq_false (show ¬ (F q).2.2.1 < (q : Int) by rw [hs]; omega), hs]
    simp
  have hnr : nearS (F q).2.2.1 (q : Int) = true := by
    unfold nearS
    rw [ha]
    rfl
  have ht : turnF (q : Int) (putF [] (F q)) = (((q + 1 : Nat) : Int), [F q], []) := by
    show turnF (q : Int) [F q] = _
    have hne : ((F q).2.2.1 != (q : Int)) = false := by rw [hs]; simp
    rw [turnF, hne, cond_false, turnF]
    rfl
  unfold wtakeF
  simp only
  rw [hp.ok, hn, ht, hnr, decide_eq_false (show ¬ (F q).2.2.1 < (q : Int) by rw [hs]; omega)]
  rfl
theorem hear_next {h hb : DHello} {ps : DPs} {S : List DKept} {q : Nat} {g : List DItem} {got : List (List DItem)} (s : Sess h ps S q [] g got) (hh : 0 ≤ hb.1 ∧ hb.1 < 16) (hpair : wt gPair hb.2) (hq : q < ps.length) (n0 : Int) (S0 : List DKept) :
    ∃ (g' : List DItem) (ms : List (List DItem)) (a : DAck), hearF (n0, S0, ((q : Int), []), g) hb (partN h ps q) = ((n0, S0, (((q + 1 : Nat) : Int), []), g'), frAck a, ms, 0) ∧ Sess h ps (leftF S a) (q + 1) [] g' (got ++ ms) ∧ AckIn a ∧ a.2.1 = hb.2 ∧ a.2.2.1 = ((q + 1 : Nat) : Int) := by
  have hF := partN_seq h ps
  have hm := s.most
  have hw := wtake_next (F := partN h ps) hF hm hq (s.right q hq)
  have hwin : WinOK (partN h ps) ps.length (q + 1) [] := ⟨hq, List.Pairwise.nil, fun x hx => by cases hx⟩
  obtain ⟨c, hc, h1, h2⟩ := ack_says (f := hb.1) (p := hb.2) (n := ((q + 1 : Nat) : Int)) (l := seqsF (((q + 1 : Nat) : Int), [])) (by omega)
  let a : DAck := (hb.1, hb.2, ((q + 1 : Nat) : Int), (c : Int))
  have hin : AckIn a := ⟨hh.1, hh.2, by show (0 : Int) ≤ ((q + 1 : Nat) : Int); omega, by show ((q + 1 : Nat) : Int) ≤ 65535; omega, by show (0 : Int) ≤ (c : Int); omega, by show (c : Int) ≤ 255; omega, hpair⟩
  have hsays : Says (q + 1) [] a := fun i hi => by
    rcases h2 _ hi with h3 | h3
    · exact .inl (by omega)
    · obtain ⟨x, hx, hx2⟩ := List.mem_map.1 h3
      cases hx
  obtain ⟨ms, g', g1, g2⟩ := gather_spec (h := h) s.good 1 q got [] g (by omega) s.dec
  have hup : upTo (partN h ps) q 1 = [partN h ps q] := by
    rw [upTo_succ]; rfl
  rw [hup, List.nil_append] at g1
  have hs2 : Sess h ps S (q + 1) [] g' (got ++ ms) := ⟨hwin, g2, s.good, s.right, s.most, s.rise, s.kept, fun i hi => (s.cover i hi).imp id fun hr => by
    rcases hr with hr | hr
    · exact .inl (by omega)
    · cases hr⟩
  refine ⟨g', ms, a, ?_, sess_ack hs2 hsays, hin, rfl, rfl⟩
  unfold hearF
  simp only [hw]
  rw [show (bif (0 : Int) != 0 then (0 : Int) != 6 else false) = false from rfl, cond_false, g1]
  simp only [bne_self_eq_false, cond_false]
  have e : (hb.1, hb.2, bitsA (((q + 1 : Nat) : Int)) (seqsF ((((q + 1 : Nat) : Int), [])))) = a := by rw [h1]
  rw [e, fack_in hin]
  simp only [bne_self_eq_false, cond_false]
theorem same_pair {a b : Int × Int} (ha : EpIn a) (hb : EpIn b) : sameF (b, a) (a, b) = true := by
  unfold sameF swapF
  rw [geqPair, ha.some, hb.some]
  simp
structure CarL (a b : Int × Int) (l : List DItem) (k : Nat) (z y : DPort) (got : List DItem) : Prop where
  le : k ≤ (piecesF 6 l.length l).length
  st : ∃ (S : List DKept) (g : List DItem) (gots : List (List DItem)), Sess (1, a, b) (tagP (piecesF 6 l.length l)) S k [] g gots ∧ (∀ x ∈ S, (k : Int) ≤ x.1) ∧ z = (2, a, b, 0, 1, (((piecesF 6 l.length l).length : Int), S, (0, []), [])) ∧ y = (2, b, a, 0, 0, (0, [], ((k : Int), []), g)) ∧ got = gots.flatten
def outL (a b : Int × Int) (l : List DItem) : List (List UInt8) := (List.range (piecesF 6 l.length l).length).map (fun j => frPart (partN (1, a, b) (tagP (piecesF 6 l.length l)) j))
theorem outL_len (a b : Int × Int) (l : List DItem) : (outL a b l).length = (piecesF 6 l.length l).length := by
  unfold outL; simp
theorem pieces_eight {l : List DItem} (h : l.length ≤ 40) : (piecesF 6 l.length l).length ≤ 8 := by
  have := pieces_count l.length l
  omega
section
variable {a b : Int × Int} (ha : EpIn a) (hb : EpIn b) {l : List DItem}
include ha hb
theorem car_begin (hl : MsgIn l) (h40 : l.length ≤ 40) : ∃ z, lsendF (2, a, b, 0, 1, noMrl) 1 l rules22 = (z, outL a b l, 0) ∧ CarL a b l 0 z (2, b, a, 0, 0, noMrl) [] := by
  have h8 := pieces_eight h40
  obtain ⟨qs, q1, q2, q3, q4, q5⟩ := sess_send (sess_new (1, a, b)) rfl hl (show (0 : Int) ≤ 1 ∧ (1 : Int) < 16 by decide) (show wt gPair ((1, a, b) : DHello).2 from ⟨ha.w, hb.w⟩) (by simp) h8 2
  subst q1
  rw [List.nil_append] at q2 q3
  have hs : sendF noMrl (1, a, b) l rules22 = ((((piecesF 6 l.length l).length : Int), (sendGo (1, a, b) 2 0 (piecesF 6 l.length l)).1, (0, []), []), outL a b l, 0) := by
    unfold sendF noMrl
    rw [split_ok hl]
    have ht : tooF (0, [], (0, []), []) ((piecesF 6 l.length l).length : Int) = false := by
      unfold tooF
      simp only [List.length_nil]
      rw [decide_eq_false_iff_not]
      show ¬ ((piecesF 6 l.length l).length : Int) > max (8 - ((0 : Nat) : Int)) 0
      omega
    simp only [ht, bne_self_eq_false, cond_false]
    have e4 : (sendGo (1, a, b) 2 0 (piecesF 6 l.length l)).2 = outL a b l := by
      have : (sendGo (1, a, b) 2 (([] : DPs).length : Int) (piecesF 6 l.length l)).2 = _ := q4
      simp only [List.length_nil, List.nil_append, Nat.zero_add] at this
      exact this
    rw [e4, Int.zero_add, List.nil_append]
  refine ⟨_, ?_, Nat.zero_le _, _, [], [], q2, fun x hx => ?_, rfl, rfl, rfl⟩
  · unfold lsendF
    simp only
    rw [hs]
    rfl
  · obtain ⟨i, _, h2, _⟩ := q2.kept x hx
    omega
theorem car_next (h40 : l.length ≤ 40) {k : Nat} {z y : DPort} {got : List DItem} (h : CarL a b l k z y got) (hk : k < (outL a b l).length) :
    ∃ (p : DPart) (y' z' : DPort) (ms : List (List DItem)) (c : DAck), toldF ((outL a b l).getD k []) = (p, true) ∧ lpartF y 2 p = (y', [frAck c], ms, 0) ∧ cameF (frAck c) = (c, true) ∧ lackF z c = (z', 0) ∧ CarL a b l (k + 1) z' y' (got ++ ms.flatten) ∧ ms.length ≤ 8 := by
  obtain ⟨hle, S, g, gots, hs, hlow, rfl, rfl, rfl⟩ := h
  rw [outL_len] at hk
  have hps : k < (tagP (piecesF 6 l.length l)).length := by rw [tag_len]; exact hk
  have hget : (outL a b l).getD k [] = frPart (partN (1, a, b) (tagP (piecesF 6 l.length l)) k) := by
    unfold outL
    simp [List.getD, hk]
  obtain ⟨g', ms, c, h1, h2, h3, h4, h5⟩ := hear_next (hb := (2, b, a)) hs (show (0 : Int) ≤ 2 ∧ (2 : Int) < 16 by decide) ⟨hb.w, ha.w⟩ hps 0 []
  have h8 := pieces_eight h40
  have hlen : ms.length ≤ 8 := by
    have d1 := h2.dec
    have d2 := dec_len ((tagP (piecesF 6 l.length l)).take (k + 1)) [] []
    unfold decD at d1
    rw [d1, List.length_append, List.length_take, tag_len, List.length_nil] at d2
    omega
  refine ⟨_, _, _, ms, c, by rw [hget]; exact told_part (hs.right k hps), ?_, came_ack h3, ?_, ⟨hk, leftF S c, g', gots ++ ms, h2, fun x hx => ?_, rfl, rfl, by rw [List.flatten_append]⟩, hlen⟩
  · unfold lpartF
    simp only
    rw [show (partN (1, a, b) (tagP (piecesF 6 l.length l)) k).2.1 = (a, b) from rfl, same_pair ha hb, h1]
    rfl
  · unfold lackF
    simp only
    rw [h4, show sameF (a, b) ((2, b, a) : DHello).2 = true from same_pair hb ha]
    rfl
  · obtain ⟨hx1, hx2⟩ := List.mem_filter.1 hx
    have hx3 : ¬ x.1 < c.2.2.1 := fun hlt => by
      have : hasA c x.1 = true := has_below hlt
      rw [this] at hx2
      cases hx2
    rw [h5] at hx3
    omega
end
theorem car_all {a b : Int × Int} {l : List DItem} (h40 : l.length ≤ 40) {z y : DPort} {got : List DItem} (hl : MsgIn l) {k : Nat} (h : CarL a b l k z y got) (hk : ¬ k < (outL a b l).length) : idleF z.2.2.2.2.2 = true ∧ idleF y.2.2.2.2.2 = true ∧ got = l := by
  obtain ⟨hle, S, g, gots, hs, hlow, rfl, rfl, rfl⟩ := h
  rw [outL_len] at hk
  have hkN : k = (tagP (piecesF 6 l.length l)).length := by rw [tag_len]; omega
  have hS : S = [] := by
    cases S with
    | nil => rfl
    | cons x r =>
      obtain ⟨i, h1, h2, _⟩ := hs.kept x (List.mem_cons_self ..)
      have := hlow x (List.mem_cons_self ..)
      omega
  subst hS
  have hd : decD (tagP (piecesF 6 l.length l)) = ([l], []) := by
    unfold decD
    rw [tag_dec _ _ _ (pieces_some _ _), pieces_flat]
    rfl
  obtain ⟨_, _, h3, h4⟩ := sess_end hs hd
  subst h3 h4
  exact ⟨rfl, rfl, by simp⟩
theorem car_got {a b : Int × Int} {l : List DItem} (h40 : l.length ≤ 40) {k : Nat} {z y : DPort} {got : List DItem} (h : CarL a b l k z y got) : got.length ≤ 40 ∧ z.2.2.2.2.2.2.1.length ≤ 100000 ∧ y.2.2.2.2.2.2.2.1.2 = [] := by
  obtain ⟨hle, S, g, gots, hs, hlow, rfl, rfl, rfl⟩ := h
  refine ⟨?_, ?_, rfl⟩
  · have hd := hs.dec
    by_cases hk : k < (piecesF 6 l.length l).length
    · have := tag_rest (piecesF 6 l.length l) [] [] k hk
      unfold decD at hd
      rw [this] at hd
      have e : gots = [] := (Prod.mk.inj hd).1.symm
      rw [e]
      simp
    · have hkN : k = (tagP (piecesF 6 l.length l)).length := by rw [tag_len]; omega
      rw [hkN, List.take_length] at hd
      unfold decD at hd
      rw [tag_dec _ _ _ (pieces_some _ _), pieces_flat] at hd
      have e : gots = [[] ++ l] := (Prod.mk.inj hd).1.symm
      rw [e]
      simpa using h40
  · have := kept_len hs
    rw [tag_len] at this
    have := pieces_eight h40
    show S.length ≤ 100000
    omega
theorem car_refuse {p : DPort} {l : List DItem} (h40 : l.length ≤ 40) (hp : p.1 = 2) (hm : p.2.2.2.2.2 = noMrl) (hw : ∀ x ∈ l, wtI x) : (allF l).2 ≠ 0 ∧ (lsendF p 1 l rules22).2.2 ≠ 0 ∨ MsgIn l := by
  cases h : (allF l).2 != (0 : Int) with
  | true =>
    have hne : (allF l).2 ≠ 0 := by simpa using h
    refine .inl ⟨hne, ?_⟩
    have hs : msplitF l = ([], (allF l).2) := by
      unfold msplitF
      rw [h, decide_eq_false (by omega)]
      rfl
    unfold lsendF
    rw [hp, hm]
    have e : sendF noMrl (1, p.2.1, p.2.2.1) l rules22 = (noMrl, [], (allF l).2) := by
      unfold sendF
      rw [hs]
      simp only
      rw [h]
      rfl
    rw [e]
    simp only
    rw [h]
    exact hne
  | false =>
    have h0 : (allF l).2 = 0 := by simpa using h
    refine .inr (split_in hw ?_).1
    unfold msplitF
    rw [h, decide_eq_false (by omega)]
    rfl
theorem lagain_new {p : DPort} {t : Int × Int} (h : (lagainF p t).2 = 0) : (lagainF p t).1.1 = 1 ∧ (lagainF p t).1.2.2.2.2.2.2.2.1.2 = [] := by
  unfold lagainF at h ⊢
  cases hc : (nextF p.2.1).2 != (0 : Int) with
  | true =>
    rw [hc] at h
    have h' : (nextF p.2.1).2 = 0 := h
    rw [h'] at hc
    cases hc
  | false => exact ⟨rfl, rfl⟩
end Go.Ev

