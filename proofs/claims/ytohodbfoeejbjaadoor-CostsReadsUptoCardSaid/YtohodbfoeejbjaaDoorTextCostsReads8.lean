/- A printed command, read letter by letter. -/
import Derived.Lib.IndexMore
import Derived.Test.YtohodbfoeejbjaaDoorTextCostsReads7

set_option linter.unusedVariables false
set_option linter.unusedSimpArgs false
namespace Go.Ev
theorem encR_small : ∀ n : Nat, n < 128 → encR (n : Int) = [UInt8.ofNat n] := by decide +kernel
theorem encR_low {b : UInt8} (h : b.toNat < 128) : encR (b.toNat : Int) = [b] := by
  rw [encR_small _ h, UInt8.ofNat_toNat]
theorem r_letter {e w : Int} {t : List UInt8} {c2 c4 : DCmd} {y : List UInt8} {pos : Nat} (hlt : pos < y.length) (h1 : byteAt y pos < 128) (h2 : byteAt y pos ≠ 32) :
    rStp (rSt e w t c2 c4 y pos) = (.normal, rSt e w (t ++ [y.getD pos 0]) c2 c4 y (pos + 1)) := by
  have he : encR ((decL y pos).1 : Int) = [y.getD pos 0] := by
    rw [decL_low h1]
    exact encR_low h1
  have hn : (((decL y pos).1 : Int) != (32 : Int)) = true := by
    rw [decL_low h1]
    simp only [bne_iff_ne, ne_eq]
    omega
  show rStp ((e, w, t, ()), c2, c4, (y, pos), ()) = _
  unfold rStp
  simp only
  rw [blt_iff.2 hlt, hn, he, decN_low hlt h1]
  rfl
theorem r_seg {e w : Int} {c2 c4 : DCmd} {y : List UInt8} : ∀ (k : Nat) {t : List UInt8} {pos : Nat}, rPre (rSt e w t c2 c4 y pos) → pos + k ≤ y.length → (∀ j, pos ≤ j → j < pos + k → byteAt y j < 128 ∧ byteAt y j ≠ 32) →
    rPre (rSt e w (t ++ (y.drop pos).take k) c2 c4 y (pos + k)) ∧ rRun (rSt e w t c2 c4 y pos) = rRun (rSt e w (t ++ (y.drop pos).take k) c2 c4 y (pos + k))
  | 0, t, pos, hp, _, _ => by simpa using hp
  | k + 1, t, pos, hp, hl, hb => by
    have hlt : pos < y.length := by omega
    obtain ⟨h1, h2⟩ := hb pos (Nat.le_refl _) (by omega)
    obtain ⟨g1, g2⟩ := rr_go hp (r_letter hlt h1 h2)
    obtain ⟨g3, g4⟩ := r_seg k g1 (by omega) (fun j h3 h4 => hb j (by omega) (by omega))
    have e1 : (t ++ [y.getD pos 0]) ++ (y.drop (pos + 1)).take k = t ++ (y.drop pos).take (k + 1) := by
      rw [drop_byte hlt, List.take_succ_cons, List.append_assoc]
      rfl
    rw [e1, show pos + 1 + k = pos + (k + 1) by omega] at g3 g4
    exact ⟨g3, g2.trans g4⟩
theorem blank {y : List UInt8} {pos : Nat} (h : byteAt y pos = 32) : (((decL y pos).1 : Int) != (32 : Int)) = false ∧ byteAt y pos < 128 := by
  have : byteAt y pos < 128 := by omega
  rw [decL_low this, h]
  exact ⟨rfl, by omega⟩
theorem r_blank0 {e : Int} {t : List UInt8} {c2 c4 : DCmd} {y : List UInt8} {pos : Nat} (hlt : pos < y.length) (h : byteAt y pos = 32) : rStp (rSt e 0 t c2 c4 y pos) = (.normal, rSt e 1 [] c2 (kUp t c4) y (pos + 1)) := by
  obtain ⟨h1, h2⟩ := blank h
  show rStp ((e, 0, t, ()), c2, c4, (y, pos), ()) = _
  unfold rStp
  simp only
  rw [blt_iff.2 hlt, h1, decN_low hlt h2]
  rfl
theorem r_blank1 {e : Int} {n : Int} {c2 c4 : DCmd} {y : List UInt8} {pos : Nat} (hlt : pos < y.length) (h : byteAt y pos = 32) (h0 : 0 ≤ n) (h16 : n < 16) : rStp (rSt e 1 [letF n] c2 c4 y pos) = (.normal, rSt e 2 [] c2 (c4.1, n, c4.2.2) y (pos + 1)) := by
  obtain ⟨h1, h2⟩ := blank h
  obtain ⟨_, k2, _, _, k5⟩ := one_text h0 h16
  show rStp ((e, 1, [letF n], ()), c2, c4, (y, pos), ()) = _
  unfold rStp
  simp only
  rw [blt_iff.2 hlt, h1, decN_low hlt h2, k2]
  simp only
  rw [k5]
  rfl
theorem r_blank2 {e : Int} {n : Int} {c2 : DCmd} {k nd : Int} {y : List UInt8} {pos : Nat} (hlt : pos < y.length) (h : byteAt y pos = 32) (h0 : 1 ≤ n) (h16 : n ≤ 65536) :
    ∃ e' c2', rStp (rSt e 2 (natT n.toNat) c2 (k, nd, 0) y pos) = (.normal, rSt e' 3 [] c2' (k, nd, n) y (pos + 1)) := by
  obtain ⟨h1, h2⟩ := blank h
  have hg : numGo 1048576 (natT n.toNat) 0 = some n := by
    have := num_digits (top := 1048576) 20 n.toNat (by omega) (by omega) (by omega)
    rw [Int.toNat_of_nonneg (by omega)] at this
    exact this
  have hr := dg_run (y := natT n.toNat) (o := some n) (a := k) (b := nd) _ ((e, ()), c2, (k, nd, 0), (natT n.toNat, 0), ()) ⟨rfl, rfl, rfl, ⟨by simp, by simp⟩, hg⟩ (Nat.lt_succ_self _)
  change dgEnd (some n) k nd (rDg e c2 (k, nd, 0) (natT n.toNat)) at hr
  obtain ⟨r1, r2⟩ := hr
  refine ⟨(rDg e c2 (k, nd, 0) (natT n.toNat)).2.1.1, (rDg e c2 (k, nd, 0) (natT n.toNat)).2.2.1, ?_⟩
  show rStp ((e, 2, natT n.toNat, ()), c2, (k, nd, 0), (y, pos), ()) = _
  unfold rStp
  simp only
  rw [blt_iff.2 hlt, h1, decN_low hlt h2, r1, r2]
  rfl
theorem byte_app {p q : List UInt8} {i : Nat} : byteAt (p ++ q) (p.length + i) = byteAt q i := by
  unfold byteAt
  simp [List.getD_eq_getElem?_getD, List.getElem?_append_right]
theorem byte_cons {b : UInt8} {q : List UInt8} : byteAt (b :: q) 0 = b.toNat := rfl
theorem byte_in {q : List UInt8} {i : Nat} (h : i < q.length) : ∃ b ∈ q, byteAt q i = b.toNat := ⟨q[i], List.getElem_mem h, by unfold byteAt; simp [List.getD, h]⟩
/-- A word behind p is gone through. -/
theorem r_word {e w : Int} {c2 c4 : DCmd} {p a q : List UInt8} (hp : rPre (rSt e w [] c2 c4 (p ++ (a ++ q)) p.length)) (ha : ∀ b ∈ a, b.toNat < 128 ∧ b ≠ 32) :
    rPre (rSt e w a c2 c4 (p ++ (a ++ q)) (p.length + a.length)) ∧ rRun (rSt e w [] c2 c4 (p ++ (a ++ q)) p.length) = rRun (rSt e w a c2 c4 (p ++ (a ++ q)) (p.length + a.length)) := by
  have h := r_seg (e := e) (w := w) (c2 := c2) (c4 := c4) (y := p ++ (a ++ q)) a.length hp (by simp) (fun j h1 h2 => by
    obtain ⟨i, rfl⟩ : ∃ i, j = p.length + i := ⟨j - p.length, by omega⟩
    rw [byte_app]
    have hi : i < a.length := by omega
    have : byteAt (a ++ q) i = byteAt a i := by unfold byteAt; simp [List.getD_eq_getElem?_getD, List.getElem?_append_left hi]
    rw [this]
    obtain ⟨b, hb, hbe⟩ := byte_in hi
    rw [hbe]
    obtain ⟨g1, g2⟩ := ha b hb
    exact ⟨g1, fun hc => g2 (UInt8.toNat_inj.1 hc)⟩)
  rw [List.drop_left' rfl, List.take_left' rfl] at h
  simpa using h
theorem wordK_low {k : Int} (h : k = 1 ∨ k = 2 ∨ k = 3 ∨ k = 4) : (∀ b ∈ wordK k, b.toNat < 128 ∧ b ≠ 32) ∧ kUp (wordK k) (0, 0, 0) = (k, 0, 0) := by
  rcases h with rfl | rfl | rfl | rfl <;> decide +kernel
theorem let_low {n : Int} (h0 : 0 ≤ n) (h1 : n < 16) : ∀ b ∈ [letF n], b.toNat < 128 ∧ b ≠ 32 := by
  intro b hb
  rw [List.mem_singleton] at hb
  subst hb
  refine ⟨?_, (one_text h0 h1).2.2.2.1⟩
  unfold letF
  rw [UInt8.toNat_ofNat']
  omega
theorem dig_low {n : Nat} : ∀ b ∈ natT n, b.toNat < 128 ∧ b ≠ 32 := fun b hb => by
  have := digN_no _ _ b hb
  exact ⟨by omega, fun h => by rw [h] at this; exact absurd this.1 (by decide)⟩
theorem r_over {e w : Int} {t : List UInt8} {c2 c4 : DCmd} {y : List UInt8} : rRun (rSt e w t c2 c4 y y.length) = (.exit 0, rSt e w t c2 c4 y (decN y y.length)) := by
  have h : rStp (rSt e w t c2 c4 y y.length) = (.exit 0, rSt e w t c2 c4 y (decN y y.length)) := by
    show rStp ((e, w, t, ()), c2, c4, (y, y.length), ()) = _
    unfold rStp
    simp only
    rw [blt_no (Nat.lt_irrefl _)]
    rfl
  rw [rr_end (by rw [h]; intro h2; cases h2), h]
/-- A printed command is read as it was. -/
theorem r_print {c : DCmd} (h : crightF c = true) : (rRun (rSt 0 0 [] (0, 0, 0) (0, 0, 0) (cprintT c ++ [32]) 0)).1 = .exit 0 ∧ (rRun (rSt 0 0 [] (0, 0, 0) (0, 0, 0) (cprintT c ++ [32]) 0)).2.2.2.1 = c := by
  obtain ⟨h0, h1, h2⟩ := cright_of h
  have hk : c.1 = 1 ∨ c.1 = 2 ∨ c.1 = 3 ∨ c.1 = 4 := by rcases h2 with h2 | h2 | h2 | h2 <;> omega
  obtain ⟨hk1, hk2⟩ := wordK_low hk
  have hlen := cprint_len h
  have hp0 : rPre (rSt 0 0 [] (0, 0, 0) (0, 0, 0) (cprintT c ++ [32]) 0) := ⟨by simp [rSt]; omega, Nat.zero_le _, Nat.zero_le _, Int.le_refl _, Int.le_refl _, Int.le_refl _, by simp [rSt]⟩
  -- behind the first word and the second
  have two : ∀ q, cprintT c ++ [32] = wordK c.1 ++ (32 :: ([letF c.2.1] ++ (32 :: q))) →
      rPre (rSt 0 2 [] (0, 0, 0) (c.1, c.2.1, 0) (cprintT c ++ [32]) (((wordK c.1 ++ [32]) ++ [letF c.2.1]) ++ [32]).length) ∧
      rRun (rSt 0 0 [] (0, 0, 0) (0, 0, 0) (cprintT c ++ [32]) 0) = rRun (rSt 0 2 [] (0, 0, 0) (c.1, c.2.1, 0) (cprintT c ++ [32]) (((wordK c.1 ++ [32]) ++ [letF c.2.1]) ++ [32]).length) := by
    intro q hy
    generalize cprintT c ++ [32] = y at hp0 hy ⊢
    have y1 : y = [] ++ (wordK c.1 ++ (32 :: ([letF c.2.1] ++ (32 :: q)))) := by rw [hy]; rfl
    have s1 := r_word (e := 0) (w := 0) (c2 := (0, 0, 0)) (c4 := (0, 0, 0)) (p := []) (a := wordK c.1) (q := 32 :: ([letF c.2.1] ++ (32 :: q))) (by rw [← y1]; exact hp0) hk1
    rw [← y1] at s1
    simp only [List.length_nil, Nat.zero_add] at s1
    have b1 : byteAt y (wordK c.1).length = 32 := by
      rw [hy]
      have := byte_app (p := wordK c.1) (q := 32 :: ([letF c.2.1] ++ (32 :: q))) (i := 0)
      rw [Nat.add_zero] at this
      rw [this]
      rfl
    have l1 : (wordK c.1).length < y.length := by rw [hy]; simp
    obtain ⟨g1, g2⟩ := rr_go s1.1 (r_blank0 l1 b1)
    rw [hk2] at g1 g2
    have y2 : y = (wordK c.1 ++ [32]) ++ ([letF c.2.1] ++ (32 :: q)) := by rw [hy]; simp
    have e1 : (wordK c.1 ++ [32]).length = (wordK c.1).length + 1 := by simp
    have s2 := r_word (e := 0) (w := 1) (c2 := (0, 0, 0)) (c4 := (c.1, 0, 0)) (p := wordK c.1 ++ [32]) (a := [letF c.2.1]) (q := 32 :: q) (by rw [← y2, e1]; exact g1) (let_low h0 h1)
    rw [← y2, ← List.length_append, e1] at s2
    have y3 : y = ((wordK c.1 ++ [32]) ++ [letF c.2.1]) ++ (32 :: q) := by rw [hy]; simp
    have b2 : byteAt y ((wordK c.1 ++ [32]) ++ [letF c.2.1]).length = 32 := by
      have := byte_app (p := (wordK c.1 ++ [32]) ++ [letF c.2.1]) (q := 32 :: q) (i := 0)
      rw [Nat.add_zero, ← y3] at this
      rw [this]
      rfl
    have l2 : ((wordK c.1 ++ [32]) ++ [letF c.2.1]).length < y.length := by
      have := congrArg List.length y3
      rw [this]; simp
    obtain ⟨g3, g4⟩ := rr_go s2.1 (r_blank1 l2 b2 h0 h1)
    have e3 : ((wordK c.1 ++ [32]) ++ [letF c.2.1]).length + 1 = (((wordK c.1 ++ [32]) ++ [letF c.2.1]) ++ [32]).length := by simp
    rw [e3] at g3 g4
    exact ⟨g3, s1.2.trans (g2.trans (s2.2.trans g4))⟩
  rcases cprint_parts h with ⟨e, e2⟩ | ⟨e, e2, e3⟩
  · have hy : cprintT c ++ [32] = wordK c.1 ++ (32 :: ([letF c.2.1] ++ (32 :: []))) := by rw [e]; simp
    obtain ⟨g1, g2⟩ := two [] hy
    rw [g2]
    have hl : (((wordK c.1 ++ [32]) ++ [letF c.2.1]) ++ [32]).length = (cprintT c ++ [32]).length := by rw [hy]; simp
    rw [hl, r_over]
    exact ⟨rfl, by show (c.1, c.2.1, (0 : Int)) = c; rw [← e2]⟩
  · have hy : cprintT c ++ [32] = wordK c.1 ++ (32 :: ([letF c.2.1] ++ (32 :: (natT c.2.2.toNat ++ [32])))) := by rw [e]; simp
    obtain ⟨g1, g2⟩ := two _ hy
    rw [g2]
    have hlen2 : (cprintT c ++ [32]).length = (((wordK c.1 ++ [32]) ++ [letF c.2.1]) ++ [32]).length + (natT c.2.2.toNat).length + 1 := by rw [hy]; simp; omega
    generalize cprintT c ++ [32] = y at hy g1 hlen2 ⊢
    have y4 : y = (((wordK c.1 ++ [32]) ++ [letF c.2.1]) ++ [32]) ++ (natT c.2.2.toNat ++ [32]) := by rw [hy]; simp
    have s3 := r_word (e := 0) (w := 2) (c2 := (0, 0, 0)) (c4 := (c.1, c.2.1, 0)) (p := ((wordK c.1 ++ [32]) ++ [letF c.2.1]) ++ [32]) (a := natT c.2.2.toNat) (q := [32]) (by rw [← y4]; exact g1) dig_low
    rw [← y4, ← List.length_append] at s3
    rw [s3.2]
    have y5 : y = ((((wordK c.1 ++ [32]) ++ [letF c.2.1]) ++ [32]) ++ natT c.2.2.toNat) ++ [32] := by rw [hy]; simp
    have b3 : byteAt y ((((wordK c.1 ++ [32]) ++ [letF c.2.1]) ++ [32]) ++ natT c.2.2.toNat).length = 32 := by
      have := byte_app (p := (((wordK c.1 ++ [32]) ++ [letF c.2.1]) ++ [32]) ++ natT c.2.2.toNat) (q := [32]) (i := 0)
      rw [Nat.add_zero, ← y5] at this
      rw [this]
      rfl
    have hl3 : ((((wordK c.1 ++ [32]) ++ [letF c.2.1]) ++ [32]) ++ natT c.2.2.toNat).length = (((wordK c.1 ++ [32]) ++ [letF c.2.1]) ++ [32]).length + (natT c.2.2.toNat).length := List.length_append
    obtain ⟨e', c2', hs⟩ := r_blank2 (e := 0) (c2 := (0, 0, 0)) (k := c.1) (nd := c.2.1) (by rw [hlen2, hl3]; omega) b3 e2 e3
    obtain ⟨g5, g6⟩ := rr_go s3.1 hs
    rw [g6]
    have hl : ((((wordK c.1 ++ [32]) ++ [letF c.2.1]) ++ [32]) ++ natT c.2.2.toNat).length + 1 = y.length := by rw [hlen2, hl3]
    rw [hl, r_over]
    exact ⟨rfl, rfl⟩
/-! Digits -/
theorem digF_nat {n : Int} (h : 0 ≤ n) : digF n = natT n.toNat := by
  unfold digF
  rw [decide_eq_false (by omega)]
  rfl
theorem digs_low {x : Int} (h : x < 10) : bytesToStr [IntKind.wrap IntKind.u8 (IntKind.wrap IntKind.i64 ((48 : Int) + if (0 : Int) < x then x else 0))] = natT x.toNat := by
  by_cases h0 : 0 < x
  · rw [if_pos h0, dig_one (by omega) h, digF_nat (by omega)]
  · rw [if_neg h0, show x.toNat = 0 by omega]
    decide +kernel
theorem digs_quo {x : Int} (h0 : ¬ x < 10) (h1 : x ≤ 9223372036854775807) : IntKind.wrap IntKind.i64 (Int.tdiv x (10 : Int)) = x / 10 := by
  rw [Int.tdiv_eq_ediv_of_nonneg (by omega)]
  exact i64_id (by omega) (by omega)
theorem digs_more {x : Int} (h0 : ¬ x < 10) (h1 : x ≤ 9223372036854775807) : natT (IntKind.wrap IntKind.i64 (Int.tdiv x (10 : Int))).toNat ++ bytesToStr [IntKind.wrap IntKind.u8 (IntKind.wrap IntKind.i64 ((48 : Int) + Int.tmod x (10 : Int)))] = natT x.toNat := by
  have h := dig_more h0 h1
  rw [digF_nat (n := x) (by omega), digF_nat (by rw [digs_quo h0 h1]; omega)] at h
  exact h
/-- What the reading comes to. -/
theorem r_whole {s : List UInt8} (hl : ¬ (s.length : Int) > 40) {r : Ex × RS} (hr : rRun (rSt 0 0 [] (0, 0, 0) (0, 0, 0) (s ++ [32]) 0) = r) :
    (isRet r.1 = true → (r.2.2.1, r.2.1.1) = cparseF s) ∧ (isRet r.1 = false → ((bif (cprintF r.2.2.2.1).2 != (0 : Int) then true else !((cprintF r.2.2.2.1).1 == s)) = true → ((0, 0, 0), 3) = cparseF s) ∧
      ((bif (cprintF r.2.2.2.1).2 != (0 : Int) then true else !((cprintF r.2.2.2.1).1 == s)) = false → (r.2.2.2.1, 0) = cparseF s)) := by
  have hp : rPre (rSt 0 0 [] (0, 0, 0) (0, 0, 0) (s ++ [32]) 0) := ⟨by simp [rSt]; omega, Nat.zero_le _, Nat.zero_le _, Int.le_refl _, Int.le_refl _, Int.le_refl _, by simp [rSt]⟩
  have hret := rr_ret hp
  have hpr : ∀ c, crightF c = true → cprintT c = s → r.1 = .exit 0 ∧ r.2.2.2.1 = c := fun c hc e => by
    have := r_print hc
    rw [e, hr] at this
    exact this
  rw [hr] at hret
  refine ⟨fun h => ?_, fun h => ⟨fun hc => ?_, fun hc => ?_⟩⟩
  · rw [(hret.1 h).1, (hret.1 h).2]
    refine (cparse_none hl fun c hc e => ?_).symm
    rw [(hpr c hc e).1] at h
    cases h
  · refine (cparse_none hl fun c hc2 e => ?_).symm
    rw [(hpr c hc2 e).2] at hc
    unfold cprintF at hc
    rw [hc2, e] at hc
    simp at hc
  · have hcr : crightF r.2.2.2.1 = true := by
      cases hcr : crightF r.2.2.2.1 with
      | true => rfl
      | false =>
        unfold cprintF at hc
        rw [hcr] at hc
        cases hc
    have he : cprintT r.2.2.2.1 = s := by
      unfold cprintF at hc
      rw [hcr] at hc
      simpa using hc
    rw [← he, cparse_print hcr]
end Go.Ev
/- Trees read: told trees come back; what both readings come to. -/
set_option linter.unusedVariables false
set_option linter.unusedSimpArgs false
namespace Go.Ev
theorem letF_nat {n : Int} (h0 : 0 ≤ n) (h1 : n < 16) : ((letF n).toNat : Int) = 97 + n := by
  unfold letF
  rw [UInt8.toNat_ofNat']
  omega
section
variable {s : List UInt8} {e j n : Int} {t2 t4 : List DEnt} {k : Nat}
theorem rt_letter {j0 : Int} (hk : k < s.length) (h0 : 0 ≤ j0) (h1 : j0 < 16) (hb : byteAt s k = (letF j0).toNat) : rtStp (rtSt s e j n 0 (k : Int) t2 t4) = (.normal, rtSt s e j0 0 1 ((k + 1 : Nat) : Int) t2 t4) := by
  have hc := letF_nat h0 h1
  have hA : cA 0 (byteAt s k : Nat) = true := by
    unfold cA
    rw [hb, decide_eq_true (by omega), decide_eq_true (by omega)]
    rfl
  show rtStp ((s, e, j, n, 0, (s.length : Int), (k : Int), ()), t2, t4, ()) = _
  unfold rtStp
  simp only
  rw [decide_eq_true (by omega), Int.toNat_natCast, hA]
  simp only [cond_true]
  rw [hb, hc, show (97 : Int) + j0 - 97 = j0 by omega]
  rfl
theorem cA_no {st c : Int} (h : st ≠ 0) : cA st c = false := by
  unfold cA
  have : (st == (0 : Int)) = false := by simpa using h
  rw [this]
  rfl
theorem rt_digit {st : Int} (hk : k < s.length) (hst : st = 1 ∨ st = 2) (h0 : 48 ≤ byteAt s k) (h1 : byteAt s k ≤ 57) (hn : n ≤ 4294967295) :
    rtStp (rtSt s e j n st (k : Int) t2 t4) = (.normal, rtSt s e j (n * 10 + ((byteAt s k : Int) - 48)) 2 ((k + 1 : Nat) : Int) t2 t4) := by
  have hB : cB st (byteAt s k : Nat) n = true := by
    unfold cB
    rw [decide_eq_true (show st > 0 by omega), decide_eq_true (show st < 3 by omega), decide_eq_true (show ((byteAt s k : Nat) : Int) ≥ 48 by omega), decide_eq_true (show ((byteAt s k : Nat) : Int) ≤ 57 by omega), decide_eq_true (show n < 4294967296 by omega)]
    rfl
  show rtStp ((s, e, j, n, st, (s.length : Int), (k : Int), ()), t2, t4, ()) = _
  unfold rtStp
  simp only
  rw [decide_eq_true (by omega), Int.toNat_natCast, cA_no (by omega), hB]
  rfl
theorem rt_pred {p : Int} (hk : k < s.length) (hp : p = -1 ∨ 0 ≤ p ∧ p < 16) (hb : byteAt s k = (pchar p).toNat) (hn : n < 4294967295) : rtStp (rtSt s e j n 2 (k : Int) t2 t4) = (.normal, rtSt s e j n 3 ((k + 1 : Nat) : Int) t2 (putT t4 j (n, p))) := by
  have hc : ((pchar p).toNat : Int) = bif decide (0 ≤ p) then 97 + p else 46 := by
    unfold pchar
    by_cases h0 : 0 ≤ p
    · rw [decide_eq_true h0]; exact letF_nat h0 (by omega)
    · rw [decide_eq_false h0]; rfl
  have hB : cB 2 (byteAt s k : Nat) n = false := by
    cases h : cB 2 (byteAt s k : Nat) n with
    | false => rfl
    | true =>
      have := cB_in h
      rw [hb, hc] at this
      by_cases h0 : 0 ≤ p
      · rw [decide_eq_true h0] at this; simp only [cond_true] at this; omega
      · rw [decide_eq_false h0] at this; simp only [cond_false] at this; omega
  have hC : cC 2 (byteAt s k : Nat) n = true ∧ (bif ((byteAt s k : Nat) : Int) != (46 : Int) then ((byteAt s k : Nat) : Int) - 97 else -1) = p := by
    unfold cC
    rw [hb, hc, decide_eq_true hn]
    by_cases h0 : 0 ≤ p
    · rw [decide_eq_true h0]
      simp only [cond_true]
      have e1 : (97 + p == (46 : Int)) = false := by simp; omega
      have e2 : (97 + p != (46 : Int)) = true := by simp; omega
      rw [e1, e2, decide_eq_true (show 97 + p ≥ 97 by omega), decide_eq_true (show 97 + p ≤ 112 by omega)]
      exact ⟨rfl, by show 97 + p - 97 = p; omega⟩
    · rw [decide_eq_false h0]
      have : p = -1 := by omega
      subst this
      exact ⟨rfl, rfl⟩
  show rtStp ((s, e, j, n, 2, (s.length : Int), (k : Int), ()), t2, t4, ()) = _
  unfold rtStp
  simp only
  rw [decide_eq_true (by omega), Int.toNat_natCast, cA_no (by omega), hB, hC.1, hC.2]
  rfl
theorem rt_space (hk : k < s.length) (hb : byteAt s k = 32) : rtStp (rtSt s e j n 3 (k : Int) t2 t4) = (.normal, rtSt s e j n 0 ((k + 1 : Nat) : Int) t2 t4) := by
  have hB : cB 3 (byteAt s k : Nat) n = false := rfl
  have hC : cC 3 (byteAt s k : Nat) n = false := rfl
  have hD : cD 3 (byteAt s k : Nat) = true := by rw [hb]; rfl
  show rtStp ((s, e, j, n, 3, (s.length : Int), (k : Int), ()), t2, t4, ()) = _
  unfold rtStp
  simp only
  rw [decide_eq_true (by omega), Int.toNat_natCast, cA_no (by omega), hB, hC, hD]
  rfl
theorem rt_over : rtRun (rtSt s e j n 0 (s.length : Int) t2 t4) = (.exit 0, rtSt s e j n 0 (s.length : Int) t2 t4) := by
  have h : rtStp (rtSt s e j n 0 (s.length : Int) t2 t4) = (.exit 0, rtSt s e j n 0 (s.length : Int) t2 t4) := by
    show rtStp ((s, e, j, n, 0, (s.length : Int), (s.length : Int), ()), t2, t4, ()) = _
    unfold rtStp
    simp only
    rw [decide_eq_false (by omega)]
    rfl
  unfold rtRun
  rw [runF_end (by rw [h]; intro h2; cases h2), h]
theorem rt_digits : ∀ (w p q : List UInt8) {n v st : Int}, s = p ++ (w ++ q) → (st = 1 ∨ st = 2) → numGo 4294967295 w n = some v → rtPre (rtSt s e j n st (p.length : Int) t2 t4) →
    ∃ st', (st' = st ∧ w = [] ∨ st' = 2) ∧ rtPre (rtSt s e j v st' ((p.length + w.length : Nat) : Int) t2 t4) ∧ rtRun (rtSt s e j n st (p.length : Int) t2 t4) = rtRun (rtSt s e j v st' ((p.length + w.length : Nat) : Int) t2 t4)
  | [], p, q, n, v, st, _, _, hg, hp => by
    simp only [numGo, Option.some.injEq] at hg
    subst hg
    exact ⟨st, .inl ⟨rfl, rfl⟩, hp, rfl⟩
  | c :: w, p, q, n, v, st, hs, hst, hg, hp => by
    simp only [numGo] at hg
    cases hc : (bif decide ((c.toNat : Int) < 48) then true else bif decide ((c.toNat : Int) > 57) then true else decide (n > 4294967295)) with
    | true => rw [hc] at hg; cases hg
    | false =>
      rw [hc] at hg
      simp only [cond_false] at hg
      rw [← badD_eq] at hc
      obtain ⟨c1, c2, c3⟩ := badD_no hc
      have hk : p.length < s.length := by rw [hs]; simp
      have hb : byteAt s p.length = c.toNat := by
        rw [hs]
        have := byte_app (p := p) (q := (c :: w) ++ q) (i := 0)
        rw [Nat.add_zero] at this
        rw [this]
        rfl
      have hstep := rt_digit (s := s) (e := e) (j := j) (n := n) (t2 := t2) (t4 := t4) (k := p.length) (st := st) hk hst (by rw [hb]; omega) (by rw [hb]; omega) c3
      rw [hb] at hstep
      obtain ⟨g1, g2⟩ := rtr_go hp hstep
      have hs2 : s = (p ++ [c]) ++ (w ++ q) := by rw [hs]; simp
      have hl : (p ++ [c]).length = p.length + 1 := by simp
      obtain ⟨st', k1, k2, k3⟩ := rt_digits w (p ++ [c]) q hs2 (.inr rfl) hg (by rw [hl]; exact g1)
      rw [hl] at k2 k3
      rw [show p.length + 1 + w.length = p.length + (c :: w).length by simp; omega] at k2 k3
      exact ⟨st', .inr (k1.elim (fun h => h.1) id), k2, g2.trans k3⟩
end
/-- An entry is gone through. -/
theorem rt_entry {t : List DEnt} {s p q : List UInt8} {j e j0 n0 : Int} {t2 t4 : List DEnt} (h0 : 0 ≤ j) (h1 : j < 16) (hg : goodE (entAt t j.toNat)) (hf : (entAt t j.toNat).1 ≠ 4294967295) (hs : s = p ++ (entB t j ++ q)) (hp : rtPre (rtSt s e j0 n0 0 (p.length : Int) t2 t4)) :
    ∃ j1 n1, rtPre (rtSt s e j1 n1 0 ((p ++ entB t j).length : Int) t2 (putT t4 j (entAt t j.toNat))) ∧ rtRun (rtSt s e j0 n0 0 (p.length : Int) t2 t4) = rtRun (rtSt s e j1 n1 0 ((p ++ entB t j).length : Int) t2 (putT t4 j (entAt t j.toNat))) := by
  rw [entB_parts h0 h1 hg] at hs ⊢
  have hnum : numGo 4294967295 (natT (entAt t j.toNat).1.toNat) 0 = some (entAt t j.toNat).1 := by
    have := num_digits (top := 4294967295) 20 (entAt t j.toNat).1.toNat (by have := hg.2; omega) (by omega) (by have := hg.2; omega)
    rw [Int.toNat_of_nonneg hg.2.1] at this
    exact this
  have hne : natT (entAt t j.toNat).1.toNat ≠ [] := digN_ne _ _ (by omega)
  generalize natT (entAt t j.toNat).1.toNat = w at hs hnum hne ⊢
  have hk : p.length < s.length := by rw [hs]; simp
  have hb : byteAt s p.length = (letF j).toNat := by
    rw [hs]
    have := byte_app (p := p) (q := (letF j :: (w ++ [pchar (entAt t j.toNat).2, 32])) ++ q) (i := 0)
    rw [Nat.add_zero] at this
    rw [this]
    rfl
  obtain ⟨g1, g2⟩ := rtr_go hp (rt_letter hk h0 h1 hb)
  have hs2 : s = (p ++ [letF j]) ++ (w ++ (pchar (entAt t j.toNat).2 :: 32 :: q)) := by rw [hs]; simp
  have hl : (p ++ [letF j]).length = p.length + 1 := by simp
  obtain ⟨st', k1, k2, k3⟩ := rt_digits w (p ++ [letF j]) _ hs2 (.inl rfl) hnum (by rw [hl]; exact g1)
  have hst : st' = 2 := k1.elim (fun h => absurd h.2 hne) id
  subst hst
  rw [hl] at k2 k3
  have hs3 : s = ((p ++ [letF j]) ++ w) ++ (pchar (entAt t j.toNat).2 :: 32 :: q) := by rw [hs]; simp
  have hl3 : ((p ++ [letF j]) ++ w).length = p.length + 1 + w.length := by simp; omega
  have hb3 : byteAt s (p.length + 1 + w.length) = (pchar (entAt t j.toNat).2).toNat := by
    have := byte_app (p := (p ++ [letF j]) ++ w) (q := pchar (entAt t j.toNat).2 :: 32 :: q) (i := 0)
    rw [Nat.add_zero, ← hs3, hl3] at this
    rw [this]
    rfl
  have hb4 : byteAt s (p.length + 1 + w.length + 1) = 32 := by
    have := byte_app (p := (p ++ [letF j]) ++ w) (q := pchar (entAt t j.toNat).2 :: 32 :: q) (i := 1)
    rw [← hs3, hl3] at this
    rw [this]
    rfl
  have hslen : s.length = p.length + 1 + w.length + 2 + q.length := by rw [hs]; simp; omega
  have hlt : (entAt t j.toNat).1 < 4294967295 := by have := hg.2.2; omega
  obtain ⟨g3, g4⟩ := rtr_go k2 (rt_pred (by omega) hg.1 hb3 hlt)
  obtain ⟨g5, g6⟩ := rtr_go g3 (rt_space (by omega) hb4)
  have hfin : ((p ++ letF j :: (w ++ [pchar (entAt t j.toNat).2, 32])).length : Int) = ((p.length + 1 + w.length + 1 + 1 : Nat) : Int) := by simp; omega
  rw [hfin]
  exact ⟨_, _, g5, g2.trans (k3.trans (g4.trans g6))⟩
theorem rt_ents {t : List DEnt} {s : List UInt8} {e : Int} {t2 : List DEnt} : ∀ (l : List Int) (p : List UInt8) (j0 n0 : Int) (acc : List DEnt), (∀ j ∈ l, 0 ≤ j ∧ j < 16 ∧ goodE (entAt t j.toNat) ∧ (entAt t j.toNat).1 ≠ 4294967295) → s = p ++ entsB t l → rtPre (rtSt s e j0 n0 0 (p.length : Int) t2 acc) →
    (rtRun (rtSt s e j0 n0 0 (p.length : Int) t2 acc)).1 = .exit 0 ∧ (rtRun (rtSt s e j0 n0 0 (p.length : Int) t2 acc)).2.2.2.1 = l.foldl (fun a j => a.set j.toNat (entAt t j.toNat)) acc
  | [], p, j0, n0, acc, _, hs, hp => by
    have : s.length = p.length := by rw [hs]; simp [entsB]
    rw [← this, rt_over]
    exact ⟨rfl, rfl⟩
  | j :: l, p, j0, n0, acc, hl, hs, hp => by
    obtain ⟨h0, h1, hg, hf⟩ := hl j (by simp)
    rw [ents_cons] at hs
    obtain ⟨j1, n1, k1, k2⟩ := rt_entry h0 h1 hg hf hs hp
    have hs2 : s = (p ++ entB t j) ++ entsB t l := by rw [hs, List.append_assoc]
    have := rt_ents l (p ++ entB t j) j1 n1 _ (fun i hi => hl i (by simp [hi])) hs2 k1
    rw [k2, List.foldl_cons]
    have e : putT acc j (entAt t j.toNat) = acc.set j.toNat (entAt t j.toNat) := by
      unfold putT
      rw [rightF_iff.2 ⟨h0, h1⟩]
      rfl
    rw [e] at this ⊢
    exact this
theorem treeB_len {t : List DEnt} : (treeB t).length ≤ 960 := by
  have h : ∀ l : List Int, (entsB t l).length ≤ 60 * l.length := fun l => by
    induction l with
    | nil => simp [entsB]
    | cons j l ih =>
      rw [ents_cons, List.length_append, List.length_cons]
      have := entB_len t j
      omega
  have h2 := elems_len (reachT t) 16
  have := h (elemsF (reachT t) 16)
  show (entsB t (elemsF (reachT t) 16)).length ≤ 960
  omega
theorem rt_told {t : List DEnt} (h : plainT t) : (rtRun (rtSt (treeB t) 0 0 0 0 0 zeroT farT)).1 = .exit 0 ∧ (rtRun (rtSt (treeB t) 0 0 0 0 0 zeroT farT)).2.2.2.1 = t := by
  have hl := treeB_len (t := t)
  have := rt_ents (t := t) (s := treeB t) (e := 0) (t2 := zeroT) (elemsF (reachT t) 16) [] 0 0 farT (fun j hj => by
    obtain ⟨h0, h1, hg⟩ := reach_in h.1 j hj
    refine ⟨h0, h1, hg, ?_⟩
    have hr := has_reach t h0 h1
    rw [(elem_in (Nat.le_refl 16) hj).2.2] at hr
    have := hr.symm
    simpa using this) rfl ⟨rfl, by show (treeB t).length ≤ 1000; omega, Int.le_refl _, by show (0 : Int) ≤ (treeB t).length; omega, Int.le_refl _, by show (0 : Int) ≤ 42949672969; decide⟩
  refine ⟨this.1, ?_⟩
  exact this.2.trans (plain_fold h)
/-! What both come to -/
def unfarE (e : DEnt) : DEnt := bif decide (e.1 = 4294967295) then (e.1, -1) else e
theorem unfar_cases (e : DEnt) : (e.1 = 4294967295 ∧ unfarE e = (e.1, -1)) ∨ (e.1 ≠ 4294967295 ∧ unfarE e = e) := by
  by_cases h : e.1 = 4294967295
  · left; refine ⟨h, ?_⟩; unfold unfarE; rw [decide_eq_true h]; rfl
  · right; refine ⟨h, ?_⟩; unfold unfarE; rw [decide_eq_false h]; rfl
def unfar (t : List DEnt) : List DEnt := t.map unfarE
theorem unfar_at {t : List DEnt} (ht : t.length = 16) {j : Nat} (hj : j < 16) : entAt (unfar t) j = unfarE (entAt t j) := by
  unfold entAt unfar
  have : j < t.length := by omega
  simp [List.getD, this]
theorem reachK_same {t u : List DEnt} (h : ∀ j, j < 16 → (entAt t j).1 = (entAt u j).1) : ∀ k, k ≤ 16 → ∀ m, reachK t k m = reachK u k m
  | 0, _, _ => rfl
  | k + 1, hk, m => by
    unfold reachK
    rw [h _ (by omega)]
    exact reachK_same h k (by omega) _
theorem unfar_fst {t : List DEnt} (h : goodT t) (j : Nat) (hj : j < 16) : (entAt (unfar t) j).1 = (entAt t j).1 := by
  rw [unfar_at h.1 hj]
  rcases unfar_cases (entAt t j) with ⟨_, e⟩ | ⟨_, e⟩ <;> rw [e]
theorem unfar_reach {t : List DEnt} (h : goodT t) : reachT (unfar t) = reachT t := reachK_same (unfar_fst h) 16 (Nat.le_refl _) 0
theorem unfar_good {t : List DEnt} (h : goodT t) : goodT (unfar t) := by
  refine ⟨by rw [unfar, List.length_map]; exact h.1, fun j hj => ?_⟩
  rw [unfar_at h.1 hj]
  have hg := h.2 j hj
  rcases unfar_cases (entAt t j) with ⟨_, e⟩ | ⟨_, e⟩ <;> rw [e]
  · exact ⟨.inl rfl, hg.2⟩
  · exact hg
theorem unfar_plainE {t : List DEnt} (h : goodT t) (j : Nat) (hj : j < 16) : plainE (entAt (unfar t) j) := by
  rw [unfar_at h.1 hj]
  have hg := h.2 j hj
  rcases unfar_cases (entAt t j) with ⟨_, e⟩ | ⟨hne, e⟩ <;> rw [e]
  · exact .inl rfl
  · exact hg.1.imp id fun hh => ⟨hh.1, hh.2, hne⟩
theorem unfar_ent {t : List DEnt} (h : goodT t) {j : Int} (hj : 0 ≤ j ∧ j < 16 ∧ hasF (reachT t) j = true) : entB (unfar t) j = entB t j := by
  have hr := has_reach t hj.1 hj.2.1
  rw [hj.2.2] at hr
  have hne : (entAt t j.toNat).1 ≠ 4294967295 := fun he => by rw [he] at hr; cases hr
  have e : entAt (unfar t) j.toNat = entAt t j.toNat := by
    have h0 := hj.1
    have h1 := hj.2.1
    rw [unfar_at h.1 (by omega)]
    rcases unfar_cases (entAt t j.toNat) with ⟨he, e⟩ | ⟨_, e⟩
    · exact absurd he hne
    · exact e
  unfold entB
  rw [e]
theorem flat_same {f g : Int → List UInt8} : ∀ l : List Int, (∀ j ∈ l, f j = g j) → l.flatMap f = l.flatMap g
  | [], _ => rfl
  | j :: l, hl => by
    rw [List.flatMap_cons, List.flatMap_cons, flat_same l (fun i hi => hl i (by simp [hi])), hl j (by simp)]
theorem unfar_tree {t : List DEnt} (h : goodT t) : treeB (unfar t) = treeB t := by
  unfold treeB
  rw [unfar_reach h]
  exact flat_same _ fun j hj => unfar_ent h (elem_in (Nat.le_refl 16) hj)
theorem unfar_plain {t : List DEnt} (h : goodT t) : plainT (unfar t) ∧ treeB (unfar t) = treeB t := ⟨⟨unfar_good h, unfar_plainE h⟩, unfar_tree h⟩
open Classical in
/-- The tree that a text tells of. -/
noncomputable def tparseF (s : List UInt8) : List DEnt × Int :=
  if (s.length : Int) > 300 then (zeroT, 4) else if h : ∃ t, plainT t ∧ treeB t = s then (h.choose, 0) else (zeroT, 3)
theorem tparse_long {s : List UInt8} (h : (s.length : Int) > 300) : tparseF s = (zeroT, 4) := by unfold tparseF; rw [if_pos h]
theorem tell_one {t u : List DEnt} (ht : plainT t) (hu : plainT u) (h : treeB t = treeB u) : t = u := by
  have h1 := (tp_told ht).2
  rw [h] at h1
  exact h1.symm.trans (tp_told hu).2
theorem tparse_told {t : List DEnt} (ht : plainT t) (hl : ¬ ((treeB t).length : Int) > 300) : tparseF (treeB t) = (t, 0) := by
  unfold tparseF
  have hx : ∃ u, plainT u ∧ treeB u = treeB t := ⟨t, ht, rfl⟩
  rw [if_neg hl, dif_pos hx]
  have h2 := hx.choose_spec
  rw [tell_one h2.1 ht h2.2]
theorem tparse_none {s : List UInt8} (hl : ¬ (s.length : Int) > 300) (h : ∀ t, plainT t → treeB t ≠ s) : tparseF s = (zeroT, 3) := by
  unfold tparseF
  rw [if_neg hl, dif_neg (fun ⟨t, h1, h2⟩ => h t h1 h2)]
theorem tparse_ok {s : List UInt8} (h : ((tparseF s).2 == (0 : Int)) = true) : plainT (tparseF s).1 ∧ treeB (tparseF s).1 = s := by
  unfold tparseF at h ⊢
  split
  · rename_i hl; rw [if_pos hl] at h; cases h
  · rename_i hl
    rw [if_neg hl] at h
    split
    · rename_i hx; exact hx.choose_spec
    · rename_i hx; rw [dif_neg hx] at h; cases h
theorem t_whole {s : List UInt8} (hl : ¬ (s.length : Int) > 300) {ret : Bool} {t2 t4 : List DEnt} {e : Int} (told : ∀ t, plainT t → treeB t = s → ret = false ∧ t4 = t) (hr : ret = true → t2 = zeroT ∧ e = 3) (hg : goodT t4) :
    (ret = true → (t2, e) = tparseF s) ∧ (ret = false → ((!(treeB t4 == s)) = true → (zeroT, 3) = tparseF s) ∧ ((!(treeB t4 == s)) = false → (t4, 0) = tparseF s)) := by
  refine ⟨fun h => ?_, fun h => ⟨fun hc => ?_, fun hc => ?_⟩⟩
  · rw [(hr h).1, (hr h).2]
    refine (tparse_none hl fun t ht e => ?_).symm
    rw [(told t ht e).1] at h
    cases h
  · refine (tparse_none hl fun t ht e => ?_).symm
    rw [(told t ht e).2, e] at hc
    simp at hc
  · have he : treeB t4 = s := by simpa using hc
    obtain ⟨u1, u2⟩ := unfar_plain hg
    have := (told _ u1 (u2.trans he)).2
    have hp : plainT t4 := by rw [this]; exact u1
    rw [← he]
    rw [← he] at hl
    exact (tparse_told hp hl).symm
end Go.Ev
/- Links read: the program's loop and the document's machine. -/
set_option linter.unusedVariables false
set_option linter.unusedSimpArgs false
namespace Go.Ev
def sndP (c : DCosts) : Prop := soundF c = true ∧ c.2.length = 16
def zeroC : DCosts := (0, List.replicate 16 0)
theorem zero_sound : sndP zeroC := ⟨by decide +kernel, by decide⟩
theorem set_sound {c : DCosts} {n w : Int} (h : sndP c) : sndP (csetF c n w).1 := ⟨(sound_set h.2 h.1).1, (sound_set h.2 h.1).2.1⟩
/-! Cut at a letter -/
theorem index_at {b : UInt8} : ∀ (p q : List UInt8), b ∉ p → Lib.index (p ++ b :: q) [b] = (p.length : Int)
  | [], q, _ => by
    show Lib.index (b :: q) [b] = 0
    unfold Lib.index
    rw [if_pos (by simp [List.isPrefixOf])]
  | a :: p, q, h => by
    have hne : ¬ b = a := fun e => h (by simp [e])
    have ih := index_at p q (fun hm => h (List.mem_cons_of_mem _ hm))
    show Lib.index (a :: (p ++ b :: q)) [b] = _
    unfold Lib.index
    rw [if_neg (by simp [List.isPrefixOf, hne]), ih, if_neg (by simp)]
    simp
theorem cut_at {b : UInt8} {p q : List UInt8} (h : b ∉ p) : Lib.cut (p ++ b :: q) [b] = (p, q, true) := by
  unfold Lib.cut
  rw [index_at p q h, if_pos (Int.natCast_nonneg _)]
  simp only [Int.toNat_natCast, List.take_left, List.length_cons, List.length_nil]
  rw [show p.length + (0 + 1) = (p ++ [b]).length by simp, show p ++ b :: q = (p ++ [b]) ++ q by simp, List.drop_left]
theorem cut_less {s t : List UInt8} (ht : t ≠ []) (h : (Lib.cut s t).2.2 = true) : (Lib.cut s t).2.1.length < s.length := by
  unfold Lib.cut at h ⊢
  split
  · rename_i h0
    have hr := Lib.index_room s t h0
    have h1 : 0 < t.length := List.length_pos_iff.2 ht
    simp only [List.length_drop]
    omega
  · rename_i h0; rw [if_neg h0] at h; cases h
/-! The program's loop -/
abbrev CpS := (Int × List UInt8 × Unit) × DCosts × DCosts × Unit
def cpW (r : List UInt8) : List UInt8 := (Lib.cut r [32]).1
def cpBad (r : List UInt8) : Bool := bif !(Lib.cut r [32]).2.2 then true else cpW r == []
def cpSet (r : List UInt8) (c : DCosts) : DCosts × Int := csetF c ((byteAt (cpW r) 0 : Int) - 97) (puF ((cpW r).drop 1)).1
def cpStp : CpS → Ex × CpS
  | ((e, r, _), c2, c4, _) => bif !(r == []) then
      bif cpBad r then (.ret, ((3, r, ()), zeroC, c4, ()))
      else bif (puF ((cpW r).drop 1)).2 then (.ret, ((3, r, ()), zeroC, c4, ()))
      else bif (cpSet r c4).2 != (0 : Int) then (.ret, ((3, r, ()), zeroC, c4, ()))
      else (.normal, ((e, (Lib.cut r [32]).2.1, ()), c2, (cpSet r c4).1, ()))
    else (.exit 0, ((e, r, ()), c2, c4, ()))
def cpMu (x : CpS) : Nat := x.1.2.1.length
def cpPre (x : CpS) : Prop := x.1.2.1.length ≤ 1000
theorem cpStp_ends (x : CpS) : (cpStp x).1 = .normal ∨ (cpStp x).1 = .exit 0 ∨ (cpStp x).1 = .ret := by
  obtain ⟨⟨e, r, ⟨⟩⟩, c2, c4, ⟨⟩⟩ := x
  unfold cpStp
  simp only
  cases !(r == []) <;> cases cpBad r <;> cases (puF ((cpW r).drop 1)).2 <;> cases (cpSet r c4).2 != (0 : Int) <;> simp
theorem cpBad_no {r : List UInt8} (h : cpBad r = false) : (Lib.cut r [32]).2.2 = true ∧ cpW r ≠ [] := by
  unfold cpBad at h
  cases hc : (Lib.cut r [32]).2.2 with
  | false => rw [hc] at h; cases h
  | true =>
    rw [hc] at h
    refine ⟨rfl, fun he => ?_⟩
    rw [he] at h
    cases h
theorem cp_go {x : CpS} (hp : cpPre x) (h : (cpStp x).1 = .normal) : cpPre (cpStp x).2 ∧ cpMu (cpStp x).2 < cpMu x := by
  obtain ⟨⟨e, r, ⟨⟩⟩, c2, c4, ⟨⟩⟩ := x
  have hp' : r.length ≤ 1000 := hp
  unfold cpStp at h ⊢
  simp only at h ⊢
  cases hb : !(r == []) with
  | false => rw [hb] at h; cases h
  | true =>
    rw [hb] at h
    simp only [cond_true] at h ⊢
    cases hk : cpBad r with
    | true => rw [hk] at h; cases h
    | false =>
      rw [hk] at h
      simp only [cond_false] at h ⊢
      cases h2 : (puF ((cpW r).drop 1)).2 with
      | true => rw [h2] at h; cases h
      | false =>
        rw [h2] at h
        simp only [cond_false] at h ⊢
        cases h3 : (cpSet r c4).2 != (0 : Int) with
        | true => rw [h3] at h; cases h
        | false =>
          have := cut_less (s := r) (t := [32]) (by simp) (cpBad_no hk).1
          refine ⟨?_, ?_⟩
          · show (Lib.cut r [32]).2.1.length ≤ 1000; omega
          · show (Lib.cut r [32]).2.1.length < r.length; omega
theorem cp_inv : ∀ (n : Nat) (x : CpS), sndP x.2.2.1 → cpMu x < n → ((isRet (runF cpStp n x).1 = true → (runF cpStp n x).2.2.1 = zeroC ∧ (runF cpStp n x).2.1.1 = 3) ∧ sndP (runF cpStp n x).2.2.2.1) :=
  fun n x hx hn => runF_inv (stp := cpStp) (J := fun x => sndP x.2.2.1) (Post := fun p => (isRet p.1 = true → p.2.2.1 = zeroC ∧ p.2.1.1 = 3) ∧ sndP p.2.2.2.1) (μ := cpMu) (fun x hx => by
    obtain ⟨⟨e, r, ⟨⟩⟩, c2, c4, ⟨⟩⟩ := x
    have hx' : sndP c4 := hx
    unfold cpStp
    simp only
    cases hb : !(r == []) with
    | false => exact ⟨nofun, fun _ => ⟨nofun, hx'⟩⟩
    | true =>
      simp only [cond_true]
      cases hk : cpBad r with
      | true => exact ⟨nofun, fun _ => ⟨fun _ => ⟨rfl, rfl⟩, hx'⟩⟩
      | false =>
        simp only [cond_false]
        cases h2 : (puF ((cpW r).drop 1)).2 with
        | true => exact ⟨nofun, fun _ => ⟨fun _ => ⟨rfl, rfl⟩, hx'⟩⟩
        | false =>
          simp only [cond_false]
          cases h3 : (cpSet r c4).2 != (0 : Int) with
          | true => exact ⟨nofun, fun _ => ⟨fun _ => ⟨rfl, rfl⟩, hx'⟩⟩
          | false =>
            refine ⟨fun _ => ⟨set_sound hx', ?_⟩, fun h => absurd rfl h⟩
            show (Lib.cut r [32]).2.1.length < r.length
            exact cut_less (by simp) (cpBad_no hk).1) n x hx hn
/-! The document's machine -/
def dA (n c : Int) : Bool := bif (bif decide (c ≥ 97) then decide (c ≤ 112) else false) then decide (n < 0) else false
def dB (n k c : Int) : Bool := bif (bif (bif decide (c ≥ 48) then decide (c ≤ 57) else false) then decide (n ≥ 0) else false) then decide (k ≤ 65536) else false
def dC (n c : Int) : Bool := bif c == (32 : Int) then decide (n ≥ 0) else false
abbrev RcS := (List UInt8 × Int × Int × Int × Int × Int × Unit) × DCosts × DCosts × Unit
def rcSt (s : List UInt8) (e n k i : Int) (c2 c4 : DCosts) : RcS := ((s, e, n, k, (s.length : Int), i, ()), c2, c4, ())
def rcStp : RcS → Ex × RcS
  | ((s, e, n, k, len, i, _), c2, c4, _) =>
    bif decide (i < len) then
      bif dA n (byteAt s i.toNat : Nat) then (.normal, ((s, e, (byteAt s i.toNat : Int) - 97, 0, len, i + 1, ()), c2, c4, ()))
      else bif dB n k (byteAt s i.toNat : Nat) then (.normal, ((s, e, n, k * 10 + ((byteAt s i.toNat : Int) - 48), len, i + 1, ()), c2, c4, ()))
      else bif dC n (byteAt s i.toNat : Nat) then
        bif (csetF c4 n k).2 != (0 : Int) then (.ret, ((s, 3, n, k, len, i, ()), zeroC, c4, ()))
        else (.normal, ((s, e, -1, k, len, i + 1, ()), c2, (csetF c4 n k).1, ()))
      else (.ret, ((s, 3, n, k, len, i, ()), zeroC, c4, ()))
    else (.exit 0, ((s, e, n, k, len, i, ()), c2, c4, ()))
def rcMu (x : RcS) : Nat := (x.1.2.2.2.2.1 - x.1.2.2.2.2.2.1).toNat
def rcPre (x : RcS) : Prop := x.1.2.2.2.2.1 = (x.1.1.length : Int) ∧ x.1.1.length ≤ 1000 ∧ 0 ≤ x.1.2.2.2.2.2.1 ∧ x.1.2.2.2.2.2.1 ≤ x.1.1.length ∧ 0 ≤ x.1.2.2.2.1 ∧ x.1.2.2.2.1 ≤ 655369
theorem rcStp_ends (x : RcS) : (rcStp x).1 = .normal ∨ (rcStp x).1 = .exit 0 ∨ (rcStp x).1 = .ret := by
  obtain ⟨⟨s, e, n, k, len, i, ⟨⟩⟩, c2, c4, ⟨⟩⟩ := x
  unfold rcStp
  simp only
  cases decide (i < len) <;> cases dA n (byteAt s i.toNat : Nat) <;> cases dB n k (byteAt s i.toNat : Nat) <;> cases dC n (byteAt s i.toNat : Nat) <;> cases (csetF c4 n k).2 != (0 : Int) <;> simp
theorem dA_in {n c : Int} (h : dA n c = true) : 97 ≤ c ∧ c ≤ 112 := by
  unfold dA at h
  by_cases h1 : c ≥ 97
  · by_cases h2 : c ≤ 112
    · exact ⟨h1, h2⟩
    · rw [decide_eq_true h1, decide_eq_false h2] at h; cases h
  · rw [decide_eq_false h1] at h; cases h
theorem dB_in {n k c : Int} (h : dB n k c = true) : 48 ≤ c ∧ c ≤ 57 ∧ k ≤ 65536 := by
  unfold dB at h
  by_cases h1 : c ≥ 48
  · by_cases h2 : c ≤ 57
    · rw [decide_eq_true h1, decide_eq_true h2] at h
      by_cases h3 : k ≤ 65536
      · exact ⟨h1, h2, h3⟩
      · rw [decide_eq_false h3] at h
        cases hn : decide (n ≥ 0) <;> rw [hn] at h <;> cases h
    · rw [decide_eq_true h1, decide_eq_false h2] at h; cases h
  · rw [decide_eq_false h1] at h; cases h
theorem rc_go {x : RcS} (hp : rcPre x) (h : (rcStp x).1 = .normal) : rcPre (rcStp x).2 ∧ rcMu (rcStp x).2 < rcMu x := by
  obtain ⟨⟨s, e, n, k, len, i, ⟨⟩⟩, c2, c4, ⟨⟩⟩ := x
  obtain ⟨h1, h2, h3, h4, h5, h6⟩ := hp
  simp only at h1 h2 h3 h4 h5 h6
  subst h1
  unfold rcStp at h ⊢
  simp only at h ⊢
  cases hl : decide (i < (s.length : Int)) with
  | false => rw [hl] at h; cases h
  | true =>
    have hlt := of_decide_eq_true hl
    rw [hl] at h
    simp only [cond_true] at h ⊢
    have hb := byteAt_lt s i.toNat
    have hmu : ((s.length : Int) - (i + 1)).toNat < ((s.length : Int) - i).toNat := by omega
    have hi1 : 0 ≤ i + 1 := by omega
    have hi2 : i + 1 ≤ (s.length : Int) := by omega
    cases hA : dA n (byteAt s i.toNat : Nat) with
    | true => exact ⟨⟨rfl, h2, hi1, hi2, Int.le_refl _, by show (0 : Int) ≤ 655369; decide⟩, hmu⟩
    | false =>
      rw [hA] at h
      simp only [cond_false] at h ⊢
      cases hB : dB n k (byteAt s i.toNat : Nat) with
      | true =>
        have := dB_in hB
        refine ⟨⟨rfl, h2, hi1, hi2, ?_, ?_⟩, hmu⟩
        · show 0 ≤ k * 10 + ((byteAt s i.toNat : Int) - 48); omega
        · show k * 10 + ((byteAt s i.toNat : Int) - 48) ≤ 655369; omega
      | false =>
        rw [hB] at h
        simp only [cond_false] at h ⊢
        cases hC : dC n (byteAt s i.toNat : Nat) with
        | true =>
          rw [hC] at h
          simp only [cond_true] at h ⊢
          cases hD : (csetF c4 n k).2 != (0 : Int) with
          | true => rw [hD] at h; cases h
          | false => exact ⟨⟨rfl, h2, hi1, hi2, h5, h6⟩, hmu⟩
        | false => rw [hC] at h; cases h
theorem rc_inv (s : List UInt8) : ∀ (n : Nat) (x : RcS), (sndP x.2.2.1 ∧ x.1.1 = s) → rcMu x < n → ((isRet (runF rcStp n x).1 = true → (runF rcStp n x).2.2.1 = zeroC ∧ (runF rcStp n x).2.1.2.1 = 3) ∧ sndP (runF rcStp n x).2.2.2.1) ∧ (runF rcStp n x).2.1.1 = s :=
  fun n x hx hn => runF_inv (stp := rcStp) (J := fun x => sndP x.2.2.1 ∧ x.1.1 = s) (Post := fun p => ((isRet p.1 = true → p.2.2.1 = zeroC ∧ p.2.1.2.1 = 3) ∧ sndP p.2.2.2.1) ∧ p.2.1.1 = s) (μ := rcMu) (fun x hx => by
    obtain ⟨⟨y, e, n, k, len, i, ⟨⟩⟩, c2, c4, ⟨⟩⟩ := x
    obtain ⟨hq, hs⟩ := hx
    have hx' : sndP c4 := hq
    have hs' : y = s := hs
    subst hs'
    unfold rcStp
    simp only
    cases hl : decide (i < len) with
    | false => exact ⟨nofun, fun _ => ⟨⟨nofun, hx'⟩, rfl⟩⟩
    | true =>
      have hlt := of_decide_eq_true hl
      simp only [cond_true]
      have hmu : (len - (i + 1)).toNat < (len - i).toNat := by omega
      cases hA : dA n (byteAt y i.toNat : Nat) with
      | true => exact ⟨fun _ => ⟨⟨hx', rfl⟩, hmu⟩, fun h => absurd rfl h⟩
      | false =>
        simp only [cond_false]
        cases hB : dB n k (byteAt y i.toNat : Nat) with
        | true => exact ⟨fun _ => ⟨⟨hx', rfl⟩, hmu⟩, fun h => absurd rfl h⟩
        | false =>
          simp only [cond_false]
          cases hC : dC n (byteAt y i.toNat : Nat) with
          | true =>
            simp only [cond_true]
            cases hD : (csetF c4 n k).2 != (0 : Int) with
            | true => exact ⟨nofun, fun _ => ⟨⟨fun _ => ⟨rfl, rfl⟩, hx'⟩, rfl⟩⟩
            | false => exact ⟨fun _ => ⟨⟨set_sound hx', rfl⟩, hmu⟩, fun h => absurd rfl h⟩
          | false => exact ⟨nofun, fun _ => ⟨⟨fun _ => ⟨rfl, rfl⟩, hx'⟩, rfl⟩⟩) n x hx hn
def rcRun (x : RcS) : Ex × RcS := runF rcStp (rcMu x + 1) x
theorem rcr_go {x y : RcS} (hp : rcPre x) (h : rcStp x = (.normal, y)) : rcPre y ∧ rcRun x = rcRun y := by
  have h1 : (rcStp x).1 = .normal := by rw [h]
  obtain ⟨g1, g2⟩ := rc_go hp h1
  rw [h] at g1 g2
  refine ⟨g1, ?_⟩
  unfold rcRun
  rw [runF_go h]
  exact runF_fuel (pre := rcPre) (μ := rcMu) (fun z hz hn => rc_go hz hn) _ _ _ g1 g2 (by omega)
end Go.Ev
/- The better of two trees, and what is asked of trees read. -/
set_option linter.unusedVariables false
set_option linter.unusedSimpArgs false
namespace Go.Ev
theorem digN_max : ∀ f k n, n < 10 ^ (k + 1) → (digN f n).length ≤ k + 1
  | 0, _, _, _ => by simp [digN]
  | f + 1, k, n, h => by
    unfold digN
    cases hb : Nat.blt n 10 with
    | true => simp
    | false =>
      have hn : ¬ n < 10 := by
        intro hn
        have h9 : Nat.blt n 10 = true := by rw [Nat.blt_eq]; exact hn
        rw [h9] at hb
        cases hb
      simp only [cond_false, List.length_append, List.length_cons, List.length_nil]
      cases k with
      | zero => simp at h; omega
      | succ k =>
        have h2 : n / 10 < 10 ^ (k + 1) := by rw [Nat.pow_succ] at h; omega
        have := digN_max f k (n / 10) h2
        omega
theorem ent_short {t : List DEnt} (h : plainT t) {j : Int} (h0 : 0 ≤ j) (h1 : j < 16) : (entB t j).length ≤ 13 := by
  have hg := h.1.2 j.toNat (by omega)
  have e1 : (natT (entAt t j.toNat).1.toNat).length ≤ 10 := digN_max 20 9 _ (by have := hg.2; omega)
  have e2 : (textN (withF 0 j)).length = 1 := by rw [(one_text h0 h1).1]; rfl
  have e3 : (textN (withF 0 (entAt t j.toNat).2)).length = 1 := by rw [pchar_text hg.1]; rfl
  unfold entB
  simp only [List.length_append, List.length_cons, List.length_nil]
  omega
theorem tree_short {t : List DEnt} (h : plainT t) : (treeB t).length ≤ 208 := by
  have key : ∀ l : List Int, (∀ j ∈ l, 0 ≤ j ∧ j < 16) → (l.flatMap (entB t)).length ≤ 13 * l.length := fun l => by
    induction l with
    | nil => intro _; simp
    | cons j l ih =>
      intro hl
      have h1 := ih fun i hi => hl i (by simp [hi])
      have h2 := ent_short h (hl j (by simp)).1 (hl j (by simp)).2
      rw [List.flatMap_cons, List.length_append, List.length_cons]
      omega
  have h2 := elems_len (reachT t) 16
  have := key (elemsF (reachT t) 16) fun j hj => by
    have := elem_in (Nat.le_refl 16) hj
    exact ⟨this.1, this.2.1⟩
  unfold treeB
  omega
/-! The better of two -/
def betE (x y : DEnt) : DEnt := bif decide (y.1 < x.1) then y else x
def betK (b : List DEnt) : Nat → List DEnt → List DEnt
  | 0, a => a
  | k + 1, a => betK b k (bif decide ((entAt b (15 - k)).1 < (entAt a (15 - k)).1) then a.set (15 - k) (entAt b (15 - k)) else a)
def betF (a b : List DEnt) : List DEnt := betK b 16 a
theorem betK_at {b : List DEnt} : ∀ k a, k ≤ 16 → a.length = 16 → (betK b k a).length = 16 ∧ ∀ j, j < 16 → entAt (betK b k a) j = if 16 - k ≤ j then betE (entAt a j) (entAt b j) else entAt a j
  | 0, a, _, ha => ⟨ha, fun j hj => by rw [if_neg (by omega)]; rfl⟩
  | k + 1, a, hk, ha => by
    have hlen : (bif decide ((entAt b (15 - k)).1 < (entAt a (15 - k)).1) then a.set (15 - k) (entAt b (15 - k)) else a).length = 16 := by
      cases decide ((entAt b (15 - k)).1 < (entAt a (15 - k)).1) with
      | true => simp only [cond_true, List.length_set]; exact ha
      | false => exact ha
    obtain ⟨h1, h2⟩ := betK_at (b := b) k _ (by omega) hlen
    refine ⟨h1, fun j hj => ?_⟩
    rw [betK, h2 j hj]
    have hat : entAt (bif decide ((entAt b (15 - k)).1 < (entAt a (15 - k)).1) then a.set (15 - k) (entAt b (15 - k)) else a) j = if 15 - k = j then betE (entAt a j) (entAt b j) else entAt a j := by
      by_cases he : 15 - k = j
      · subst he
        rw [if_pos rfl]
        unfold betE
        cases decide ((entAt b (15 - k)).1 < (entAt a (15 - k)).1) with
        | true => simp only [cond_true]; rw [ent_set (by omega), if_pos rfl]
        | false => rfl
      · rw [if_neg he]
        cases decide ((entAt b (15 - k)).1 < (entAt a (15 - k)).1) with
        | true => simp only [cond_true]; rw [ent_set (by omega), if_neg he]
        | false => rfl
    rw [hat]
    by_cases h3 : 16 - k ≤ j
    · rw [if_pos h3, if_neg (show ¬ 15 - k = j by omega), if_pos (show 16 - (k + 1) ≤ j by omega)]
    · by_cases h4 : 15 - k = j
      · rw [if_neg h3, if_pos h4, if_pos (show 16 - (k + 1) ≤ j by omega)]
      · rw [if_neg h3, if_neg h4, if_neg (show ¬ 16 - (k + 1) ≤ j by omega)]
theorem bet_at {a b : List DEnt} (ha : a.length = 16) {j : Nat} (hj : j < 16) : entAt (betF a b) j = betE (entAt a j) (entAt b j) := by
  have := (betK_at (b := b) 16 a (Nat.le_refl _) ha).2 j hj
  rw [if_pos (by omega)] at this
  exact this
theorem bet_len {a b : List DEnt} (ha : a.length = 16) : (betF a b).length = 16 := (betK_at (b := b) 16 a (Nat.le_refl _) ha).1
theorem betE_low (x y : DEnt) : (decide ((betE x y).1 > x.1)) = false ∧ (decide ((betE x y).1 > y.1)) = false ∧ (betE x y = x ∨ betE x y = y) := by
  unfold betE
  by_cases h : y.1 < x.1
  · rw [decide_eq_true h]
    exact ⟨decide_eq_false (by simp only [cond_true]; omega), decide_eq_false (by simp only [cond_true]; omega), .inr rfl⟩
  · rw [decide_eq_false h]
    exact ⟨decide_eq_false (by simp only [cond_false]; omega), decide_eq_false (by simp only [cond_false]; omega), .inl rfl⟩
/-! Plain trees, as the law asks -/
def plB (e : DEnt) : Bool := bif e.2 == (-1 : Int) then true else bif rightF e.2 then e.1 != (4294967295 : Int) else false
def plainK (t : List DEnt) : Nat → Bool → Bool
  | 0, p => p
  | k + 1, p => plainK t k (bif p then plB (entAt t (15 - k)) else false)
theorem plainK_true {t : List DEnt} : ∀ k p, k ≤ 16 → plainK t k p = true → p = true ∧ ∀ j, 16 - k ≤ j → j < 16 → plB (entAt t j) = true
  | 0, p, _, h => ⟨h, fun j h1 h2 => by omega⟩
  | k + 1, p, hk, h => by
    obtain ⟨h1, h2⟩ := plainK_true (t := t) k _ (by omega) h
    cases p with
    | false => cases h1
    | true =>
      refine ⟨rfl, fun j h3 h4 => ?_⟩
      by_cases he : j = 15 - k
      · rw [he]; exact h1
      · exact h2 j (by omega) h4
theorem plain_of {t : List DEnt} (hw : t.length = 16) (ho : tOK t) (h : plainK t 16 true = true) : plainT t := by
  have hp := (plainK_true 16 true (Nat.le_refl _) h).2
  have hc : ∀ j, j < 16 → (entAt t j).2 = -1 ∨ 0 ≤ (entAt t j).2 ∧ (entAt t j).2 < 16 ∧ (entAt t j).1 ≠ 4294967295 := fun j hj => by
    have := hp j (by omega) hj
    unfold plB at this
    cases h1 : (entAt t j).2 == (-1 : Int) with
    | true => left; simpa using h1
    | false =>
      rw [h1] at this
      simp only [cond_false] at this
      cases h2 : rightF (entAt t j).2 with
      | false => rw [h2] at this; cases this
      | true =>
        rw [h2] at this
        have h3 := rightF_iff.1 h2
        have h4 : ((entAt t j).1 != (4294967295 : Int)) = true := this
        right
        refine ⟨h3.1, h3.2, fun he => ?_⟩
        rw [he] at h4
        cases h4
  refine ⟨⟨hw, fun j hj => ⟨?_, ho j⟩⟩, hc⟩
  exact (hc j hj).imp id fun h => ⟨h.1, h.2.1⟩
theorem betF_eq (a b : List DEnt) : betK b (Int.toNat ((16 : Int) - (0 : Int))) a = betF a b := by
  unfold betF
  rw [show Int.toNat ((16 : Int) - (0 : Int)) = 16 by decide]
theorem betK_step {b a : List DEnt} {i : Int} (h0 : 0 ≤ i) (h1 : i < 16) : betK b (16 - (i + 1)).toNat (bif decide ((b.getD i.toNat ((0 : Int), (0 : Int))).1 < (a.getD i.toNat ((0 : Int), (0 : Int))).1) then a.set i.toNat (b.getD i.toNat ((0 : Int), (0 : Int))) else a) = betK b (16 - i).toNat a := by
  obtain ⟨s1, s2⟩ := step_i h0 h1
  rw [s1, betK, s2]
  rfl
theorem plainK_step {t : List DEnt} {p : Bool} {i : Int} (h0 : 0 ≤ i) (h1 : i < 16) : plainK t (16 - (i + 1)).toNat (bif p then plB (entAt t i.toNat) else false) = plainK t (16 - i).toNat p := by
  obtain ⟨s1, s2⟩ := step_i h0 h1
  rw [s1, plainK, s2]
theorem plainK_end (t : List DEnt) (p : Bool) : plainK t (16 - (16 : Int)).toNat p = p := by
  rw [show (16 - (16 : Int)).toNat = 0 by decide, plainK]
theorem betK_end (b a : List DEnt) : betK b (16 - (16 : Int)).toNat a = a := by
  rw [show (16 - (16 : Int)).toNat = 0 by decide, betK]
attribute [irreducible] betF betK plainK
end Go.Ev
/- Links read: told links come back. -/
set_option linter.unusedVariables false
set_option linter.unusedSimpArgs false
namespace Go.Ev
def addC (c : DCosts) (a : DCosts) (j : Int) : DCosts := (withF a.1 j, a.2.set j.toNat (c.2.getD j.toNat 0))
theorem add_fold {c : DCosts} : ∀ (l : List Int) (a : Nat) (ys : List Int), a < 65536 → ys.length = 16 → (∀ j ∈ l, 0 ≤ j ∧ j < 16) →
    ∃ (a' : Nat) (ys' : List Int), l.foldl (addC c) ((a : Int), ys) = ((a' : Int), ys') ∧ a' < 65536 ∧ ys'.length = 16 ∧ (∀ n, n < 16 → a'.testBit n = (a.testBit n || decide ((n : Int) ∈ l))) ∧ ∀ n, n < 16 → ys'.getD n 0 = if (n : Int) ∈ l then c.2.getD n 0 else ys.getD n 0
  | [], a, ys, ha, hs, _ => ⟨a, ys, rfl, ha, hs, fun n _ => by simp, fun n _ => by simp⟩
  | j :: l, a, ys, ha, hs, hl => by
    obtain ⟨h0, h1⟩ := hl j (by simp)
    obtain ⟨i, rfl⟩ := Int.eq_ofNat_of_zero_le h0
    have hi : i < 16 := by omega
    have ho : a ||| 2 ^ i < 2 ^ 16 := Nat.or_lt_two_pow (by omega) (Nat.lt_of_le_of_lt (Nat.pow_le_pow_right (by omega) (show i ≤ 15 by omega)) (by decide))
    have h16 : (2 : Nat) ^ 16 = 65536 := by decide
    have e : addC c ((a : Int), ys) (i : Int) = (((a ||| 2 ^ i : Nat) : Int), ys.set i (c.2.getD i 0)) := by
      unfold addC
      simp only [Int.toNat_natCast]
      rw [with_nat ha hi]
    obtain ⟨a', ys', k1, k2, k3, k4, k5⟩ := add_fold (c := c) l (a ||| 2 ^ i) (ys.set i (c.2.getD i 0)) (by omega) (by rw [List.length_set]; exact hs) fun x hx => hl x (by simp [hx])
    refine ⟨a', ys', by rw [List.foldl_cons, e]; exact k1, k2, k3, fun n hn => ?_, fun n hn => ?_⟩
    · rw [k4 n hn, Nat.testBit_or, Nat.testBit_two_pow]
      have : decide ((n : Int) ∈ (i : Int) :: l) = (decide (i = n) || decide ((n : Int) ∈ l)) := by
        rw [← Bool.decide_or]
        congr 1
        rw [List.mem_cons]
        apply propext
        constructor <;> rintro (h | h)
        · left; omega
        · exact .inr h
        · left; omega
        · exact .inr h
      rw [this, Bool.or_assoc]
    · rw [k5 n hn, getD_set (by omega)]
      by_cases hm : (n : Int) ∈ l
      · rw [if_pos hm, if_pos (by simp [hm])]
      · rw [if_neg hm]
        by_cases hin : i = n
        · rw [if_pos hin, if_pos (by simp [hin]), hin]
        · rw [if_neg hin, if_neg]
          rw [List.mem_cons]
          rintro (h | h)
          · omega
          · exact hm h
theorem sound_fold {c : DCosts} (h : sndP c) : (elemsF c.1 16).foldl (addC c) zeroC = c := by
  obtain ⟨m, hm, hc, hok⟩ := sound_iff.1 h.1
  obtain ⟨a', ys', k1, k2, k3, k4, k5⟩ := add_fold (c := c) (elemsF c.1 16) 0 (List.replicate 16 0) (by decide) (by decide) fun j hj => by
    have := elem_in (Nat.le_refl 16) hj
    exact ⟨this.1, this.2.1⟩
  have hmem : ∀ n : Nat, n < 16 → ((n : Int) ∈ elemsF c.1 16 ↔ m.testBit n = true) := fun n hn => by
    rw [mem_elems (Nat.le_refl 16), hc, has_nat hn]
    constructor
    · exact fun h => h.2.2
    · exact fun h => ⟨by omega, by omega, h⟩
  have e : zeroC = (((0 : Nat) : Int), List.replicate 16 0) := rfl
  rw [e, k1]
  have ea : a' = m := Nat.eq_of_testBit_eq fun n => by
    by_cases hn : n < 16
    · rw [k4 n hn]
      rw [Nat.zero_testBit, Bool.false_or]
      cases hb : m.testBit n with
      | true => exact decide_eq_true ((hmem n hn).2 hb)
      | false => exact decide_eq_false fun hx => by rw [(hmem n hn).1 hx] at hb; cases hb
    · have hp : 2 ^ 16 ≤ 2 ^ n := Nat.pow_le_pow_right (by omega) (by omega)
      have h16 : (2 : Nat) ^ 16 = 65536 := by decide
      rw [Nat.testBit_lt_two_pow (show a' < 2 ^ n by omega), Nat.testBit_lt_two_pow (show m < 2 ^ n by omega)]
  have es : ys' = c.2 := List.ext_getElem (by rw [k3, h.2]) fun n h1 h2 => by
    have hn : n < 16 := by omega
    have := k5 n hn
    have z0 : (List.replicate 16 (0 : Int)).getD n 0 = 0 := by
      rw [List.getD_eq_getElem?_getD, List.getElem?_replicate, if_pos hn]; rfl
    rw [z0] at this
    have hx : ys'.getD n 0 = c.2.getD n 0 := by
      by_cases hb : (n : Int) ∈ elemsF c.1 16
      · rw [if_pos hb] at this; exact this
      · rw [if_neg hb] at this
        have ho := hok n hn
        have hb' : m.testBit n = false := by
          cases hb2 : m.testBit n with
          | false => rfl
          | true => exact absurd ((hmem n hn).2 hb2) hb
        rw [hb'] at ho
        simp only [cond_false] at ho
        have ho' : c.2.getD n 0 = 0 := by simpa using ho
        rw [this, ho']
    simpa [List.getD, h1, h2] using hx
  rw [ea, es, ← hc]
theorem sound_in {c : DCosts} (h : sndP c) : ∀ j ∈ elemsF c.1 16, 0 ≤ j ∧ j < 16 ∧ rcostF (c.2.getD j.toNat 0) = true := fun j hj => by
  obtain ⟨m, hm, hc, hok⟩ := sound_iff.1 h.1
  obtain ⟨h0, h1, h2⟩ := elem_in (Nat.le_refl 16) hj
  obtain ⟨i, rfl⟩ := Int.eq_ofNat_of_zero_le h0
  have := hok i (by omega)
  rw [hc, has_nat (by omega)] at h2
  rw [h2] at this
  exact ⟨h0, h1, this⟩
theorem rcost_in {w : Int} (h : rcostF w = true) : 1 ≤ w ∧ w ≤ 65536 := by
  unfold rcostF at h
  by_cases h1 : w ≥ 1
  · by_cases h2 : w ≤ 65536
    · exact ⟨h1, h2⟩
    · rw [decide_eq_true h1, decide_eq_false h2] at h; cases h
  · rw [decide_eq_false h1] at h; cases h
theorem lnkB_parts {c : DCosts} {j : Int} (h0 : 0 ≤ j) (h1 : j < 16) : lnkB c j = letF j :: (natT (c.2.getD j.toNat 0).toNat ++ [32]) := by
  unfold lnkB
  rw [(one_text h0 h1).1]
  rfl
theorem dig_ne {d : Nat} (h : d < 10) : UInt8.ofNat (48 + d) ≠ 32 := fun e => by
  have := dig_toNat h
  rw [e] at this
  have h32 : (32 : UInt8).toNat = 32 := rfl
  omega
theorem digN_space : ∀ (f n : Nat), (32 : UInt8) ∉ digN f n
  | 0, _ => by simp [digN]
  | f + 1, n => by
    unfold digN
    cases hb : Nat.blt n 10 with
    | true =>
      have hn : n < 10 := by rw [Nat.blt_eq] at hb; exact hb
      simp only [cond_true, List.mem_singleton]
      exact fun e => dig_ne hn e.symm
    | false =>
      simp only [cond_false, List.mem_append, List.mem_singleton]
      rintro (h | h)
      · exact digN_space f _ h
      · exact dig_ne (d := n % 10) (by omega) h.symm
theorem lnk_cut {c : DCosts} {j : Int} {q : List UInt8} (h0 : 0 ≤ j) (h1 : j < 16) : Lib.cut (lnkB c j ++ q) [32] = (letF j :: natT (c.2.getD j.toNat 0).toNat, q, true) := by
  have hno : (32 : UInt8) ∉ letF j :: natT (c.2.getD j.toNat 0).toNat := by
    rw [List.mem_cons]
    rintro (h | h)
    · exact (one_text h0 h1).2.2.2.1 h.symm
    · exact digN_space _ _ h
  rw [lnkB_parts h0 h1, show (letF j :: (natT (c.2.getD j.toNat 0).toNat ++ [32])) ++ q = (letF j :: natT (c.2.getD j.toNat 0).toNat) ++ 32 :: q by simp]
  exact cut_at hno
theorem set_add {c a : DCosts} {j : Int} (h0 : 0 ≤ j) (h1 : j < 16) (hr : rcostF (c.2.getD j.toNat 0) = true) : csetF a j (c.2.getD j.toNat 0) = (addC c a j, 0) := by
  unfold csetF
  rw [hr, rightF_iff.2 ⟨h0, h1⟩]
  rfl
theorem cp_lnks {c : DCosts} {e : Int} {c2 : DCosts} : ∀ (l : List Int) (n : Nat) (acc : DCosts), (∀ j ∈ l, 0 ≤ j ∧ j < 16 ∧ rcostF (c.2.getD j.toNat 0) = true) → (lnksB c l).length < n →
    runF cpStp n ((e, lnksB c l, ()), c2, acc, ()) = (.exit 0, ((e, [], ()), c2, l.foldl (addC c) acc, ()))
  | [], n + 1, acc, _, _ => by
    have h : cpStp ((e, ([] : List UInt8), ()), c2, acc, ()) = (.exit 0, ((e, [], ()), c2, acc, ())) := rfl
    show runF cpStp (n + 1) ((e, [], ()), c2, acc, ()) = _
    rw [runF_end (by rw [h]; intro h2; cases h2), h]
    rfl
  | _, 0, _, _, h => by omega
  | j :: l, n + 1, acc, hl, hn => by
    obtain ⟨h0, h1, hr⟩ := hl j (by simp)
    have hcut := lnk_cut (c := c) (q := lnksB c l) h0 h1
    rw [← lnks_cons] at hcut
    have hin := rcost_in hr
    have hne : (lnksB c (j :: l) == []) = false := by
      rw [lnks_cons, lnkB_parts h0 h1]
      rfl
    have hw : cpW (lnksB c (j :: l)) = letF j :: natT (c.2.getD j.toNat 0).toNat := by unfold cpW; rw [hcut]
    have hbad : cpBad (lnksB c (j :: l)) = false := by unfold cpBad; rw [hw, hcut]; rfl
    have hpu : puF ((cpW (lnksB c (j :: l))).drop 1) = (c.2.getD j.toNat 0, false) := by
      rw [hw]
      exact pu_nat (by omega) (by omega)
    have hlet : ((byteAt (cpW (lnksB c (j :: l))) 0 : Nat) : Int) - 97 = j := by
      rw [hw]
      show (((letF j).toNat : Nat) : Int) - 97 = j
      rw [letF_nat h0 h1]; omega
    have hset : cpSet (lnksB c (j :: l)) acc = (addC c acc j, 0) := by
      unfold cpSet
      rw [hpu, hlet]
      exact set_add h0 h1 hr
    have h : cpStp ((e, lnksB c (j :: l), ()), c2, acc, ()) = (.normal, ((e, lnksB c l, ()), c2, addC c acc j, ())) := by
      unfold cpStp
      simp only
      rw [hne, hbad, hpu, hset, hcut]
      rfl
    have hlen : (lnksB c (j :: l)).length = (lnkB c j).length + (lnksB c l).length := by rw [lnks_cons, List.length_append]
    have hpos : 0 < (lnkB c j).length := by rw [lnkB_parts h0 h1]; simp
    rw [runF_go h, cp_lnks l n _ (fun i hi => hl i (by simp [hi])) (by omega)]
    rfl
def cpRun (s : List UInt8) : Ex × CpS := runF cpStp (cpMu ((0, s, ()), zeroC, zeroC, ()) + 1) ((0, s, ()), zeroC, zeroC, ())
theorem cp_told {c : DCosts} (h : sndP c) : (cpRun (linksT c)).1 = .exit 0 ∧ (cpRun (linksT c)).2.2.2.1 = c := by
  have := cp_lnks (c := c) (e := 0) (c2 := zeroC) (elemsF c.1 16) (cpMu ((0, linksT c, ()), zeroC, zeroC, ()) + 1) zeroC (sound_in h) (Nat.lt_succ_self _)
  have e : cpRun (linksT c) = (.exit 0, ((0, [], ()), zeroC, (elemsF c.1 16).foldl (addC c) zeroC, ())) := this
  rw [e]
  exact ⟨rfl, sound_fold h⟩
/-! The document's machine -/
section
variable {s : List UInt8} {e n k : Int} {c2 c4 : DCosts} {i : Nat}
theorem rc_letter {j : Int} (hn : n < 0) (hi : i < s.length) (h0 : 0 ≤ j) (h1 : j < 16) (hb : byteAt s i = (letF j).toNat) : rcStp (rcSt s e n k (i : Int) c2 c4) = (.normal, rcSt s e j 0 ((i + 1 : Nat) : Int) c2 c4) := by
  have hc := letF_nat h0 h1
  have hA : dA n (byteAt s i : Nat) = true := by
    unfold dA
    rw [hb, decide_eq_true (by omega), decide_eq_true (by omega), decide_eq_true hn]
    rfl
  show rcStp ((s, e, n, k, (s.length : Int), (i : Int), ()), c2, c4, ()) = _
  unfold rcStp
  simp only
  rw [decide_eq_true (by omega), Int.toNat_natCast, hA]
  simp only [cond_true]
  rw [hb, hc, show (97 : Int) + j - 97 = j by omega]
  rfl
theorem dA_no {c : Int} (h : 0 ≤ n) : dA n c = false := by
  unfold dA
  rw [decide_eq_false (show ¬ n < 0 by omega)]
  cases (bif decide (c ≥ 97) then decide (c ≤ 112) else false) <;> rfl
theorem rc_digit (hi : i < s.length) (hn : 0 ≤ n) (h0 : 48 ≤ byteAt s i) (h1 : byteAt s i ≤ 57) (hk : k ≤ 65536) :
    rcStp (rcSt s e n k (i : Int) c2 c4) = (.normal, rcSt s e n (k * 10 + ((byteAt s i : Int) - 48)) ((i + 1 : Nat) : Int) c2 c4) := by
  have hB : dB n k (byteAt s i : Nat) = true := by
    unfold dB
    rw [decide_eq_true (show ((byteAt s i : Nat) : Int) ≥ 48 by omega), decide_eq_true (show ((byteAt s i : Nat) : Int) ≤ 57 by omega), decide_eq_true (show n ≥ 0 by omega), decide_eq_true hk]
    rfl
  show rcStp ((s, e, n, k, (s.length : Int), (i : Int), ()), c2, c4, ()) = _
  unfold rcStp
  simp only
  rw [decide_eq_true (by omega), Int.toNat_natCast, dA_no hn, hB]
  rfl
theorem rc_space (hi : i < s.length) (hn : 0 ≤ n) (hb : byteAt s i = 32) {c' : DCosts} (hs : csetF c4 n k = (c', 0)) : rcStp (rcSt s e n k (i : Int) c2 c4) = (.normal, rcSt s e (-1) k ((i + 1 : Nat) : Int) c2 c') := by
  have hB : dB n k (byteAt s i : Nat) = false := by rw [hb]; rfl
  have hC : dC n (byteAt s i : Nat) = true := by
    unfold dC
    rw [hb, decide_eq_true (show n ≥ 0 by omega)]
    rfl
  show rcStp ((s, e, n, k, (s.length : Int), (i : Int), ()), c2, c4, ()) = _
  unfold rcStp
  simp only
  rw [decide_eq_true (by omega), Int.toNat_natCast, dA_no hn, hB, hC, hs]
  rfl
theorem rc_over : rcRun (rcSt s e n k (s.length : Int) c2 c4) = (.exit 0, rcSt s e n k (s.length : Int) c2 c4) := by
  have h : rcStp (rcSt s e n k (s.length : Int) c2 c4) = (.exit 0, rcSt s e n k (s.length : Int) c2 c4) := by
    show rcStp ((s, e, n, k, (s.length : Int), (s.length : Int), ()), c2, c4, ()) = _
    unfold rcStp
    simp only
    rw [decide_eq_false (by omega)]
    rfl
  unfold rcRun
  rw [runF_end (by rw [h]; intro h2; cases h2), h]
theorem rc_digits : ∀ (w p q : List UInt8) {k v : Int}, s = p ++ (w ++ q) → 0 ≤ n → numGo 65536 w k = some v → rcPre (rcSt s e n k (p.length : Int) c2 c4) →
    rcPre (rcSt s e n v ((p.length + w.length : Nat) : Int) c2 c4) ∧ rcRun (rcSt s e n k (p.length : Int) c2 c4) = rcRun (rcSt s e n v ((p.length + w.length : Nat) : Int) c2 c4)
  | [], p, q, k, v, _, _, hg, hp => by
    simp only [numGo, Option.some.injEq] at hg
    subst hg
    exact ⟨hp, rfl⟩
  | b :: w, p, q, k, v, hs, hn, hg, hp => by
    simp only [numGo] at hg
    cases hc : (bif decide ((b.toNat : Int) < 48) then true else bif decide ((b.toNat : Int) > 57) then true else decide (k > 65536)) with
    | true => rw [hc] at hg; cases hg
    | false =>
      rw [hc] at hg
      simp only [cond_false] at hg
      rw [← badD_eq] at hc
      obtain ⟨c1, c2', c3⟩ := badD_no hc
      have hk : p.length < s.length := by rw [hs]; simp
      have hb : byteAt s p.length = b.toNat := by
        rw [hs]
        have := byte_app (p := p) (q := (b :: w) ++ q) (i := 0)
        rw [Nat.add_zero] at this
        rw [this]
        rfl
      have hstep := rc_digit (s := s) (e := e) (n := n) (k := k) (c2 := c2) (c4 := c4) (i := p.length) hk hn (by rw [hb]; omega) (by rw [hb]; omega) c3
      rw [hb] at hstep
      obtain ⟨g1, g2⟩ := rcr_go hp hstep
      have hs2 : s = (p ++ [b]) ++ (w ++ q) := by rw [hs]; simp
      have hl : (p ++ [b]).length = p.length + 1 := by simp
      obtain ⟨k2, k3⟩ := rc_digits w (p ++ [b]) q hs2 hn hg (by rw [hl]; exact g1)
      rw [hl] at k2 k3
      rw [show p.length + 1 + w.length = p.length + (b :: w).length by simp; omega] at k2 k3
      exact ⟨k2, g2.trans k3⟩
end
theorem rc_lnk {c : DCosts} {s p q : List UInt8} {j e n k : Int} {c2 acc : DCosts} (hn : n < 0) (h0 : 0 ≤ j) (h1 : j < 16) (hr : rcostF (c.2.getD j.toNat 0) = true) (hs : s = p ++ (lnkB c j ++ q)) (hp : rcPre (rcSt s e n k (p.length : Int) c2 acc)) :
    ∃ n1 k1, n1 < 0 ∧ rcPre (rcSt s e n1 k1 ((p ++ lnkB c j).length : Int) c2 (addC c acc j)) ∧ rcRun (rcSt s e n k (p.length : Int) c2 acc) = rcRun (rcSt s e n1 k1 ((p ++ lnkB c j).length : Int) c2 (addC c acc j)) := by
  have hin := rcost_in hr
  rw [lnkB_parts h0 h1] at hs ⊢
  have hnum : numGo 65536 (natT (c.2.getD j.toNat 0).toNat) 0 = some (c.2.getD j.toNat 0) := by
    have := num_digits (top := 65536) 20 (c.2.getD j.toNat 0).toNat (by omega) (by omega) (by omega)
    rw [Int.toNat_of_nonneg (by omega)] at this
    exact this
  have hset := set_add (c := c) (a := acc) h0 h1 hr
  generalize c.2.getD j.toNat 0 = v at hs hnum hset ⊢
  generalize natT v.toNat = w at hs hnum ⊢
  have hk : p.length < s.length := by rw [hs]; simp
  have hb : byteAt s p.length = (letF j).toNat := by
    rw [hs]
    have := byte_app (p := p) (q := (letF j :: (w ++ [32])) ++ q) (i := 0)
    rw [Nat.add_zero] at this
    rw [this]
    rfl
  obtain ⟨g1, g2⟩ := rcr_go hp (rc_letter hn hk h0 h1 hb)
  have hs2 : s = (p ++ [letF j]) ++ (w ++ (32 :: q)) := by rw [hs]; simp
  have hl : (p ++ [letF j]).length = p.length + 1 := by simp
  obtain ⟨k2, k3⟩ := rc_digits w (p ++ [letF j]) _ hs2 h0 hnum (by rw [hl]; exact g1)
  rw [hl] at k2 k3
  have hs3 : s = ((p ++ [letF j]) ++ w) ++ (32 :: q) := by rw [hs]; simp
  have hl3 : ((p ++ [letF j]) ++ w).length = p.length + 1 + w.length := by simp; omega
  have hb3 : byteAt s (p.length + 1 + w.length) = 32 := by
    have := byte_app (p := (p ++ [letF j]) ++ w) (q := 32 :: q) (i := 0)
    rw [Nat.add_zero, ← hs3, hl3] at this
    rw [this]
    rfl
  have hslen : s.length = p.length + 1 + w.length + 1 + q.length := by rw [hs]; simp; omega
  obtain ⟨g3, g4⟩ := rcr_go k2 (rc_space (by omega) h0 hb3 hset)
  have hfin : ((p ++ letF j :: (w ++ [32])).length : Int) = ((p.length + 1 + w.length + 1 : Nat) : Int) := by simp; omega
  rw [hfin]
  exact ⟨_, _, by decide, g3, g2.trans (k3.trans g4)⟩
theorem rc_lnks {c : DCosts} {s : List UInt8} {e : Int} {c2 : DCosts} : ∀ (l : List Int) (p : List UInt8) (n k : Int) (acc : DCosts), n < 0 → (∀ j ∈ l, 0 ≤ j ∧ j < 16 ∧ rcostF (c.2.getD j.toNat 0) = true) → s = p ++ lnksB c l → rcPre (rcSt s e n k (p.length : Int) c2 acc) →
    (rcRun (rcSt s e n k (p.length : Int) c2 acc)).1 = .exit 0 ∧ (rcRun (rcSt s e n k (p.length : Int) c2 acc)).2.2.2.1 = l.foldl (addC c) acc
  | [], p, n, k, acc, _, _, hs, hp => by
    have : s.length = p.length := by rw [hs]; simp [lnksB]
    rw [← this, rc_over]
    exact ⟨rfl, rfl⟩
  | j :: l, p, n, k, acc, hn, hl, hs, hp => by
    obtain ⟨h0, h1, hr⟩ := hl j (by simp)
    rw [lnks_cons] at hs
    obtain ⟨n1, k1, hn1, g1, g2⟩ := rc_lnk hn h0 h1 hr hs hp
    have hs2 : s = (p ++ lnkB c j) ++ lnksB c l := by rw [hs, List.append_assoc]
    have := rc_lnks l (p ++ lnkB c j) n1 k1 _ hn1 (fun i hi => hl i (by simp [hi])) hs2 g1
    rw [g2, List.foldl_cons]
    exact this
theorem links_len {c : DCosts} : (linksT c).length ≤ 640 := by
  have key : ∀ l : List Int, (lnksB c l).length ≤ 40 * l.length := fun l => by
    induction l with
    | nil => simp [lnksB]
    | cons j l ih =>
      have h2 := lnkB_len c j
      rw [lnks_cons, List.length_append, List.length_cons]
      omega
  have h2 := elems_len c.1 16
  have := key (elemsF c.1 16)
  show (lnksB c (elemsF c.1 16)).length ≤ 640
  omega
theorem links_short {c : DCosts} (h : sndP c) : (linksT c).length ≤ 112 := by
  have key : ∀ l : List Int, (∀ j ∈ l, 0 ≤ j ∧ j < 16 ∧ rcostF (c.2.getD j.toNat 0) = true) → (lnksB c l).length ≤ 7 * l.length := fun l => by
    induction l with
    | nil => intro _; simp [lnksB]
    | cons j l ih =>
      intro hl
      obtain ⟨h0, h1, hr⟩ := hl j (by simp)
      have h1' := ih fun i hi => hl i (by simp [hi])
      have hin := rcost_in hr
      have e1 : (natT (c.2.getD j.toNat 0).toNat).length ≤ 5 := digN_max 20 4 _ (by omega)
      have h2 : (lnkB c j).length ≤ 7 := by rw [lnkB_parts h0 h1, List.length_cons, List.length_append]; show _ + 1 + 1 ≤ 7; omega
      rw [lnks_cons, List.length_append, List.length_cons]
      omega
  have h2 := elems_len c.1 16
  have := key (elemsF c.1 16) (sound_in h)
  show (lnksB c (elemsF c.1 16)).length ≤ 112
  omega
theorem rc_told {c : DCosts} (h : sndP c) : (rcRun (rcSt (linksT c) 0 (-1) 0 0 zeroC zeroC)).1 = .exit 0 ∧ (rcRun (rcSt (linksT c) 0 (-1) 0 0 zeroC zeroC)).2.2.2.1 = c := by
  have hl := links_len (c := c)
  have := rc_lnks (c := c) (s := linksT c) (e := 0) (c2 := zeroC) (elemsF c.1 16) [] (-1) 0 zeroC (by decide) (sound_in h) rfl ⟨rfl, by show (linksT c).length ≤ 1000; omega, Int.le_refl _, by show (0 : Int) ≤ (linksT c).length; omega, Int.le_refl _, by show (0 : Int) ≤ 655369; decide⟩
  exact ⟨this.1, this.2.trans (sound_fold h)⟩
/-! What both come to -/
open Classical in
/-- The links that a text tells of. -/
noncomputable def lparseF (s : List UInt8) : DCosts × Int :=
  if (s.length : Int) > 300 then (zeroC, 4) else if h : ∃ c, sndP c ∧ linksT c = s then (h.choose, 0) else (zeroC, 3)
theorem lparse_long {s : List UInt8} (h : (s.length : Int) > 300) : lparseF s = (zeroC, 4) := by unfold lparseF; rw [if_pos h]
theorem cell_one {c d : DCosts} (ht : sndP c) (hu : sndP d) (h : linksT c = linksT d) : c = d := by
  have h1 := (cp_told ht).2
  rw [h] at h1
  exact h1.symm.trans (cp_told hu).2
theorem lparse_told {c : DCosts} (ht : sndP c) (hl : ¬ ((linksT c).length : Int) > 300) : lparseF (linksT c) = (c, 0) := by
  unfold lparseF
  have hx : ∃ d, sndP d ∧ linksT d = linksT c := ⟨c, ht, rfl⟩
  rw [if_neg hl, dif_pos hx]
  have h2 := hx.choose_spec
  rw [cell_one h2.1 ht h2.2]
theorem lparse_none {s : List UInt8} (hl : ¬ (s.length : Int) > 300) (h : ∀ c, sndP c → linksT c ≠ s) : lparseF s = (zeroC, 3) := by
  unfold lparseF
  rw [if_neg hl, dif_neg (fun ⟨c, h1, h2⟩ => h c h1 h2)]
theorem lparse_ok {s : List UInt8} (h : ((lparseF s).2 == (0 : Int)) = true) : sndP (lparseF s).1 ∧ linksT (lparseF s).1 = s := by
  unfold lparseF at h ⊢
  split
  · rename_i hl; rw [if_pos hl] at h; cases h
  · rename_i hl
    rw [if_neg hl] at h
    split
    · rename_i hx; exact hx.choose_spec
    · rename_i hx; rw [dif_neg hx] at h; cases h
theorem c_whole {s : List UInt8} (hl : ¬ (s.length : Int) > 300) {ret : Bool} {c2 c4 : DCosts} {e : Int} (told : ∀ c, sndP c → linksT c = s → ret = false ∧ c4 = c) (hr : ret = true → c2 = zeroC ∧ e = 3) (hg : sndP c4) :
    (ret = true → (c2, e) = lparseF s) ∧ (ret = false → ((!(linksT c4 == s)) = true → (zeroC, 3) = lparseF s) ∧ ((!(linksT c4 == s)) = false → (c4, 0) = lparseF s)) := by
  refine ⟨fun h => ?_, fun h => ⟨fun hc => ?_, fun hc => ?_⟩⟩
  · rw [(hr h).1, (hr h).2]
    refine (lparse_none hl fun c ht e => ?_).symm
    rw [(told c ht e).1] at h
    cases h
  · refine (lparse_none hl fun c ht e => ?_).symm
    rw [(told c ht e).2, e] at hc
    simp at hc
  · have he : linksT c4 = s := by simpa using hc
    rw [← he] at hl ⊢
    exact (lparse_told hg hl).symm
end Go.Ev
/- The least link, the sum, what two differ in. -/
set_option linter.unusedVariables false
set_option linter.unusedSimpArgs false
namespace Go.Ev
theorem fold_drop {α : Type} (f : α → Int → α) {l : List Int} {i : Int} (a : α) (h0 : 0 ≤ i) (h1 : i < (l.length : Int)) : (l.drop (i + 1).toNat).foldl f (f a (l.getD i.toNat 0)) = (l.drop i.toNat).foldl f a := by
  have hi : i.toNat < l.length := by omega
  have e : l.drop i.toNat = l.getD i.toNat 0 :: l.drop (i + 1).toNat := by
    rw [show (i + 1).toNat = i.toNat + 1 by omega, List.drop_eq_getElem_cons hi]
    simp [List.getD, hi]
  rw [e, List.foldl_cons]
theorem fold_over {α : Type} (f : α → Int → α) {l : List Int} {i : Int} (a : α) (h : (l.length : Int) ≤ i) : (l.drop i.toNat).foldl f a = a := by
  rw [List.drop_eq_nil_of_le (by omega)]; rfl
theorem getD_in {l : List Int} {i : Int} {p : Int → Prop} (hl : ∀ j ∈ l, p j) (h0 : 0 ≤ i) (h1 : i < (l.length : Int)) : p (l.getD i.toNat 0) := by
  have hi : i.toNat < l.length := by omega
  have e : l.getD i.toNat 0 = l[i.toNat] := by simp [List.getD, hi]
  rw [e]
  exact hl _ (List.getElem_mem hi)
def leastS (c : DCosts) (a j : Int) : Int := bif (bif decide (a < (0 : Int)) then true else decide (c.2.getD j.toNat 0 < c.2.getD a.toNat 0)) then j else a
def leastF (c : DCosts) : Int := (elemsF c.1 16).foldl (leastS c) (-1)
def totalS (c : DCosts) (a j : Int) : Int := IntKind.wrap IntKind.u64 (a + IntKind.wrap IntKind.u64 (c.2.getD j.toNat 0))
def totalF (c : DCosts) : Int := (elemsF c.1 16).foldl (totalS c) 0
theorem leastS_in {c : DCosts} {a j : Int} (ha : a < 16) (hj : 0 ≤ j ∧ j < 16) : leastS c a j < 16 := by
  unfold leastS
  cases (bif decide (a < (0 : Int)) then true else decide (c.2.getD j.toNat 0 < c.2.getD a.toNat 0)) with
  | true => exact hj.2
  | false => exact ha
theorem total_ge {c : DCosts} : ∀ (l : List Int) (a : Int), 0 ≤ a → a + 65536 * (l.length : Int) ≤ 9000000000000000000 → (∀ j ∈ l, 1 ≤ c.2.getD j.toNat 0 ∧ c.2.getD j.toNat 0 ≤ 65536) → a + (l.length : Int) ≤ l.foldl (totalS c) a
  | [], a, _, _, _ => by simp
  | j :: l, a, h0, h1, hl => by
    have hj := hl j (by simp)
    rw [List.length_cons] at h1 ⊢
    have e : totalS c a j = a + c.2.getD j.toNat 0 := by
      unfold totalS
      rw [show IntKind.wrap IntKind.u64 (c.2.getD j.toNat 0) = c.2.getD j.toNat 0 from u64_id (by omega) (by omega)]
      exact u64_id (by omega) (by omega)
    have := total_ge (c := c) l (a + c.2.getD j.toNat 0) (by omega) (by omega) fun i hi => hl i (by simp [hi])
    rw [List.foldl_cons, e]
    omega
theorem total_sound {c : DCosts} (h : sndP c) : ((elemsF c.1 16).length : Int) ≤ totalF c := by
  have h2 := elems_len c.1 16
  have := total_ge (c := c) (elemsF c.1 16) 0 (Int.le_refl _) (by omega) fun j hj => rcost_in (sound_in h j hj).2.2
  unfold totalF
  omega
def diffK (a b : DCosts) : Nat → Int → Int
  | 0, s => s
  | k + 1, s => diffK a b k (bif ofF a (15 - k : Nat) != ofF b (15 - k : Nat) then withF s (15 - k : Nat) else s)
def diffF (a b : DCosts) : Int := diffK a b 16 0
theorem diffK_same (a : DCosts) : ∀ k s, diffK a a k s = s
  | 0, _ => rfl
  | k + 1, s => by
    rw [diffK, diffK_same a k]
    simp
theorem diff_same (a : DCosts) : diffF a a = 0 := diffK_same a 16 0
theorem diffF_eq (a b : DCosts) : diffK a b (Int.toNat ((16 : Int) - (0 : Int))) 0 = diffF a b := by
  unfold diffF
  rw [show Int.toNat ((16 : Int) - (0 : Int)) = 16 by decide]
theorem diffK_step {a b : DCosts} {i s : Int} (h0 : 0 ≤ i) (h1 : i < 16) : diffK a b (16 - (i + 1)).toNat (bif ofF a i != ofF b i then withF s i else s) = diffK a b (16 - i).toNat s := by
  obtain ⟨s1, s2⟩ := step_i h0 h1
  have hn : ((i.toNat : Nat) : Int) = i := by omega
  rw [s1, diffK, s2, hn]
theorem diffK_end (a b : DCosts) (s : Int) : diffK a b (16 - (16 : Int)).toNat s = s := by
  rw [show (16 - (16 : Int)).toNat = 0 by decide, diffK]
theorem sound_low {c : DCosts} (h : soundF c = true) : 0 ≤ c.1 ∧ c.1 < 65536 := by
  obtain ⟨m, hm, hc, _⟩ := sound_iff.1 h
  omega
attribute [irreducible] diffK diffF leastF totalF
end Go.Ev
