/- Items, parts and acks read from bytes, in plain Lean; what was written is read. -/
import Derived.Lib.SliceRun
import Derived.Recover
import Derived.Scope
import Derived.Test.YtfahhljpjdoagaaGreatTextLinkMeets5

set_option linter.unusedVariables false
set_option linter.unusedSimpArgs false
namespace Go.Ev
def item0 : DItem := ((0 : Int), (0 : Int), (0 : Int), (0 : Int))
def byteN (s : List UInt8) (i : Nat) : Int := ((s.getD i 0).toNat : Int)
def imkF (s : List UInt8) : DItem := (Int.tdiv (byteN s 0) 16, Int.tmod (byteN s 0) 16, big4 (s.drop 1), bif byteN s 5 == (255 : Int) then -1 else byteN s 5)
def itemRF (s : List UInt8) : DItem × List UInt8 × Int := bif decide ((s.length : Int) < 6) then (item0, [], 2) else bif !itemOk (imkF s) then (item0, [], 3) else (imkF s, s.drop 6, 0)
def unallG : Nat → List DItem → List UInt8 → List DItem × Int
  | 0, o, _ => (o, 0)
  | k + 1, o, s => bif s.isEmpty then (o, 0) else bif (itemRF s).2.2 != (0 : Int) then ([], (itemRF s).2.2) else bif decide ((o.length : Int) ≥ 48) then ([], 4) else unallG k (o ++ [(itemRF s).1]) (itemRF s).2.1
def unallF (s : List UInt8) : List DItem × Int := unallG 50 [] s
def big2 (s : List UInt8) : Int := (bigN (s.take 2) : Int)
def ack0 : DAck := ((0 : Int), (((0 : Int), (0 : Int)), (0 : Int), (0 : Int)), (0 : Int), (0 : Int))
def amkF (s : List UInt8) : DAck := (byteN s 0, (readF (s.drop 1)).1, big2 (s.drop 17), byteN s 19)
def ackRF (s : List UInt8) : DAck × Int := bif decide ((s.length : Int) < 20) then (ack0, 2) else bif (bif decide ((s.length : Int) > 20) then true else !rightF (byteN s 0)) then (ack0, 3) else (amkF s, 0)
def ptmkF (s : List UInt8) : DPart := (byteN s 0, (readF ((s.take 20).drop 1)).1, big2 (s.drop 17), byteN s 19 == (1 : Int), (unallF (s.drop 20)).1)
def partRF (s : List UInt8) : DPart × Int :=
  bif decide ((s.length : Int) < 20) then (part0, 2) else bif decide ((s.length : Int) > 60) then (part0, 4) else bif (unallF (s.drop 20)).2 != (0 : Int) then (part0, (unallF (s.drop 20)).2)
  else bif (bif decide (byteN s 19 > 1) then true else !rightF (byteN s 0)) then (part0, 3) else (ptmkF s, 0)
theorem byteN_in (s : List UInt8) (i : Nat) : 0 ≤ byteN s i ∧ byteN s i < 256 := by
  unfold byteN
  have := (s.getD i 0).toNat_lt
  omega
theorem big4_in (s : List UInt8) : 0 ≤ big4 s ∧ big4 s ≤ 4294967295 := by
  unfold big4
  have := bigN_lt (s.take 4)
  have hp : (256 : Nat) ^ (s.take 4).length ≤ 256 ^ 4 := Nat.pow_le_pow_right (by omega) (by rw [List.length_take]; omega)
  have h' : (256 : Nat) ^ 4 = 4294967296 := by decide
  omega
theorem big2_in (s : List UInt8) : 0 ≤ big2 s ∧ big2 s ≤ 65535 := by
  unfold big2
  have := bigN_lt (s.take 2)
  have hp : (256 : Nat) ^ (s.take 2).length ≤ 256 ^ 2 := Nat.pow_le_pow_right (by omega) (by rw [List.length_take]; omega)
  have h' : (256 : Nat) ^ 2 = 65536 := by decide
  omega
theorem take_byte {s : List UInt8} {k : Nat} (h : k + 1 ≤ s.length) : takeF (s.drop k) 1 = (byteN s k, s.drop (k + 1), 0) := by
  unfold takeF
  rw [decide_eq_false (by omega), decide_eq_false (by omega), cond_false, cond_false, decide_eq_false (by rw [List.length_drop]; omega), cond_false]
  have e : (s.drop k).take 1 = [s.getD k 0] := by
    rw [List.drop_eq_getElem_cons (by omega), List.take_succ_cons, List.take_zero]
    simp [List.getD, show k < s.length by omega]
  show ((bigN ((s.drop k).take 1) : Int), (s.drop k).drop 1, (0 : Int)) = _
  rw [e, List.drop_drop]
  simp [bigN, byteN]
theorem take_four {s : List UInt8} {k : Nat} (h : k + 4 ≤ s.length) : takeF (s.drop k) 4 = (big4 (s.drop k), s.drop (k + 4), 0) := by
  unfold takeF
  rw [decide_eq_false (by omega), decide_eq_false (by omega), cond_false, cond_false, decide_eq_false (by rw [List.length_drop]; omega), cond_false]
  show ((bigN ((s.drop k).take 4) : Int), (s.drop k).drop 4, (0 : Int)) = _
  rw [List.drop_drop]
  rfl
theorem take_two {s : List UInt8} {k : Nat} (h : k + 2 ≤ s.length) : takeF (s.drop k) 2 = (big2 (s.drop k), s.drop (k + 2), 0) := by
  unfold takeF
  rw [decide_eq_false (by omega), decide_eq_false (by omega), cond_false, cond_false, decide_eq_false (by rw [List.length_drop]; omega), cond_false]
  show ((bigN ((s.drop k).take 2) : Int), (s.drop k).drop 2, (0 : Int)) = _
  rw [List.drop_drop]
  rfl
/-! Loops -/
abbrev IuS := (List UInt8 × Int × Unit) × (List DItem × Unit)
def iuPre (x : IuS) : Prop := x.2.1.length ≤ 48
def iuStp (x : IuS) : Ex × IuS :=
  bif decide ((x.1.1.length : Int) > 0) then
    bif (itemRF x.1.1).2.2 != (0 : Int) then (.ret, ((x.1.1, (itemRF x.1.1).2.2, ()), (x.2.1, ())))
    else bif decide ((x.2.1.length : Int) ≥ 48) then (.ret, ((x.1.1, 4, ()), (x.2.1, ())))
    else (.normal, (((itemRF x.1.1).2.1, x.1.2.1, ()), (x.2.1 ++ [(itemRF x.1.1).1], ())))
  else (.exit 0, x)
def iuMu (x : IuS) : Nat := 48 - x.2.1.length
theorem iuStp_ends (x : IuS) : (iuStp x).1 = .normal ∨ (iuStp x).1 = .exit 0 ∨ (iuStp x).1 = .ret := by
  unfold iuStp
  cases decide ((x.1.1.length : Int) > 0) <;> cases (itemRF x.1.1).2.2 != (0 : Int) <;> cases decide ((x.2.1.length : Int) ≥ 48) <;> simp
theorem iu_go {x : IuS} (hp : iuPre x) (hn : (iuStp x).1 = .normal) : iuPre (iuStp x).2 ∧ iuMu (iuStp x).2 < iuMu x := by
  unfold iuStp at hn ⊢
  unfold iuPre at hp
  cases h1 : decide ((x.1.1.length : Int) > 0) with
  | false => rw [h1] at hn; cases hn
  | true =>
    cases h2 : (itemRF x.1.1).2.2 != (0 : Int) with
    | true => rw [h1, h2] at hn; cases hn
    | false =>
      cases h3 : decide ((x.2.1.length : Int) ≥ 48) with
      | true => rw [h1, h2, h3] at hn; cases hn
      | false =>
        have h3' := of_decide_eq_false h3
        simp only [cond_true, cond_false]
        refine ⟨?_, ?_⟩
        · show (x.2.1 ++ [_]).length ≤ 48
          rw [List.length_append, List.length_singleton]; omega
        · show 48 - (x.2.1 ++ [_]).length < 48 - x.2.1.length
          rw [List.length_append, List.length_singleton]; omega
def iuRes (p : Ex × IuS) : List DItem × Int :=
  match p.1 with
  | .ret => ([], p.2.1.2.1)
  | _ => (p.2.2.1, 0)
theorem iu_run : ∀ (k n : Nat) (x : IuS), iuPre x → iuMu x < n → iuMu x < k → iuRes (runF iuStp n x) = unallG k x.2.1 x.1.1
  | 0, _, _, _, _, h => by omega
  | _ + 1, 0, _, _, h, _ => by omega
  | k + 1, n + 1, x, hp, hn, hk => by
    rw [unallG]
    have he : x.1.1.isEmpty = !decide ((x.1.1.length : Int) > 0) := by
      cases x.1.1 with
      | nil => rfl
      | cons a l => simp
    cases h1 : decide ((x.1.1.length : Int) > 0) with
    | false =>
      have e : iuStp x = (.exit 0, x) := by unfold iuStp; rw [h1]; rfl
      rw [runF_end (by rw [e]; simp), e, he, h1]; rfl
    | true =>
      rw [he, h1]
      cases h2 : (itemRF x.1.1).2.2 != (0 : Int) with
      | true =>
        have e : iuStp x = (.ret, ((x.1.1, (itemRF x.1.1).2.2, ()), (x.2.1, ()))) := by unfold iuStp; rw [h1, h2]; rfl
        rw [runF_end (by rw [e]; simp), e]; rfl
      | false =>
        cases h3 : decide ((x.2.1.length : Int) ≥ 48) with
        | true =>
          have e : iuStp x = (.ret, ((x.1.1, 4, ()), (x.2.1, ()))) := by unfold iuStp; rw [h1, h2, h3]; rfl
          rw [runF_end (by rw [e]; simp), e]; rfl
        | false =>
          have e : iuStp x = (.normal, (((itemRF x.1.1).2.1, x.1.2.1, ()), (x.2.1 ++ [(itemRF x.1.1).1], ()))) := by unfold iuStp; rw [h1, h2, h3]; rfl
          have hg := iu_go hp (by rw [e])
          rw [e] at hg
          rw [runF_go e]
          exact iu_run k n _ hg.1 (Nat.lt_of_lt_of_le hg.2 (by omega)) (Nat.lt_of_lt_of_le hg.2 (by omega))
theorem unallG_len : ∀ (k : Nat) (o : List DItem) (s : List UInt8), o.length ≤ 48 → (unallG k o s).1.length ≤ 48
  | 0, o, s, h => h
  | k + 1, o, s, h => by
    rw [unallG]
    cases s.isEmpty with
    | true => exact h
    | false =>
      cases (itemRF s).2.2 != (0 : Int) with
      | true => simp
      | false =>
        cases hd : decide ((o.length : Int) ≥ 48) with
        | true => simp
        | false =>
          have := of_decide_eq_false hd
          exact unallG_len k _ _ (by rw [List.length_append, List.length_singleton]; omega)
theorem unall_len (s : List UInt8) : (unallF s).1.length ≤ 48 := unallG_len 50 [] s (by simp)
/-! What was written is read -/
theorem item_in {x : DItem} (hw : 0 ≤ x.2.2.1 ∧ x.2.2.1 ≤ 4294967295) (h : itemOk x = true) : (0 ≤ x.1 ∧ x.1 < 16) ∧ (0 ≤ x.2.1 ∧ x.2.1 ≤ 2) ∧ (x.2.2.2 = -1 ∨ 0 ≤ x.2.2.2 ∧ x.2.2.2 < 16) := by
  unfold itemOk at h
  cases h1 : rightF x.1 with
  | false => rw [h1] at h; simp at h
  | true =>
    have hr := rightF_iff.1 h1
    by_cases h2 : x.2.1 < 0
    · rw [h1, decide_eq_true h2] at h; simp at h
    · by_cases h3 : x.2.1 > 2
      · rw [h1, decide_eq_false h2, decide_eq_true h3] at h; simp at h
      · rw [h1, decide_eq_false h2, decide_eq_false h3] at h
        simp only [Bool.not_true, cond_false] at h
        refine ⟨hr, ⟨by omega, by omega⟩, ?_⟩
        cases h4 : x.2.2.1 == (0 : Int) with
        | true => rw [h4] at h; exact .inl (by simpa using h)
        | false =>
          cases h5 : x.2.2.1 == (4294967295 : Int) with
          | true => rw [h4, h5] at h; exact .inl (by simpa using h)
          | false =>
            rw [h4, h5] at h
            simp only [cond_false] at h
            cases h6 : rightF x.2.2.2 with
            | true => exact .inr (rightF_iff.1 h6)
            | false => rw [h6] at h; simp at h
theorem itemB_parts {x : DItem} (hw : 0 ≤ x.2.2.1 ∧ x.2.2.1 ≤ 4294967295) (h : itemOk x = true) :
    itemB x = UInt8.ofNat (16 * x.1 + x.2.1).toNat :: (num4 x.2.2.1 ++ [UInt8.ofNat (bif x.2.2.2 == (-1 : Int) then (255 : Int) else x.2.2.2).toNat]) := by
  obtain ⟨h1, h2, h3⟩ := item_in hw h
  unfold itemB
  rw [i64_id (n := 16 * x.1) (by omega) (by omega), i64_id (n := 16 * x.1 + x.2.1) (by omega) (by omega), u64_id (n := 16 * x.1 + x.2.1) (by omega) (by omega), u64_id (n := x.2.2.1) (by omega) (by omega), num_one (n := 16 * x.1 + x.2.1) (by omega) (by omega), numF4]
  have hp : 0 ≤ (bif x.2.2.2 == (-1 : Int) then (255 : Int) else x.2.2.2) ∧ (bif x.2.2.2 == (-1 : Int) then (255 : Int) else x.2.2.2) < 256 := by
    cases hq : x.2.2.2 == (-1 : Int) with
    | true => simp
    | false =>
      have : x.2.2.2 ≠ -1 := by simpa using hq
      simp only [cond_false]
      omega
  rw [u64_id hp.1 (by omega), num_one hp.1 hp.2]
  rfl
theorem big4_num {n : Int} (h0 : 0 ≤ n) (h1 : n ≤ 4294967295) (s : List UInt8) : big4 (num4 n ++ s) = n := by
  unfold big4
  rw [List.take_left' (num4_len n)]
  unfold num4
  rw [bigN_num, Nat.mod_eq_of_lt (by have : (256 : Nat) ^ 4 = 4294967296 := by decide
                                     omega)]
  omega
theorem imk_item {x : DItem} (hw : 0 ≤ x.2.2.1 ∧ x.2.2.1 ≤ 4294967295) (h : itemOk x = true) (s : List UInt8) : imkF (itemB x ++ s) = x := by
  obtain ⟨h1, h2, h3⟩ := item_in hw h
  rw [itemB_parts hw h]
  have e0 : byteN (UInt8.ofNat (16 * x.1 + x.2.1).toNat :: (num4 x.2.2.1 ++ [UInt8.ofNat (bif x.2.2.2 == (-1 : Int) then (255 : Int) else x.2.2.2).toNat]) ++ s) 0 = 16 * x.1 + x.2.1 := byte_of (by omega) (by omega)
  have hp : 0 ≤ (bif x.2.2.2 == (-1 : Int) then (255 : Int) else x.2.2.2) ∧ (bif x.2.2.2 == (-1 : Int) then (255 : Int) else x.2.2.2) < 256 := by
    cases hq : x.2.2.2 == (-1 : Int) with
    | true => simp
    | false =>
      have : x.2.2.2 ≠ -1 := by simpa using hq
      simp only [cond_false]
      omega
  have e5 : byteN (UInt8.ofNat (16 * x.1 + x.2.1).toNat :: (num4 x.2.2.1 ++ [UInt8.ofNat (bif x.2.2.2 == (-1 : Int) then (255 : Int) else x.2.2.2).toNat]) ++ s) 5 = (bif x.2.2.2 == (-1 : Int) then (255 : Int) else x.2.2.2) := by
    have : (UInt8.ofNat (16 * x.1 + x.2.1).toNat :: (num4 x.2.2.1 ++ [UInt8.ofNat (bif x.2.2.2 == (-1 : Int) then (255 : Int) else x.2.2.2).toNat]) ++ s).getD 5 0 = UInt8.ofNat (bif x.2.2.2 == (-1 : Int) then (255 : Int) else x.2.2.2).toNat := by
      have hl := num4_len x.2.2.1
      rw [List.cons_append, List.getD_cons_succ, List.append_assoc]
      generalize num4 x.2.2.1 = l at hl ⊢
      match l, hl with
      | [_, _, _, _], _ => rfl
    unfold byteN
    rw [this]
    exact byte_of hp.1 hp.2
  have e1 : big4 ((UInt8.ofNat (16 * x.1 + x.2.1).toNat :: (num4 x.2.2.1 ++ [UInt8.ofNat (bif x.2.2.2 == (-1 : Int) then (255 : Int) else x.2.2.2).toNat]) ++ s).drop 1) = x.2.2.1 := by
    rw [List.cons_append, List.drop_succ_cons, List.drop_zero, List.append_assoc]
    exact big4_num hw.1 hw.2 _
  unfold imkF
  rw [e0, e5, e1, Int.tdiv_eq_ediv_of_nonneg (by omega), Int.tmod_eq_emod_of_nonneg (by omega), show (16 * x.1 + x.2.1) / 16 = x.1 by omega, show (16 * x.1 + x.2.1) % 16 = x.2.1 by omega]
  have e6 : (bif (bif x.2.2.2 == (-1 : Int) then (255 : Int) else x.2.2.2) == (255 : Int) then (-1 : Int) else (bif x.2.2.2 == (-1 : Int) then (255 : Int) else x.2.2.2)) = x.2.2.2 := by
    cases hq : x.2.2.2 == (-1 : Int) with
    | true =>
      have : x.2.2.2 = -1 := by simpa using hq
      rw [this]; rfl
    | false =>
      have : x.2.2.2 ≠ -1 := by simpa using hq
      have hne : (x.2.2.2 == (255 : Int)) = false := by simp; omega
      simp only [cond_false]
      rw [hne]; rfl
  rw [e6]
theorem itemR_back {x : DItem} (hw : 0 ≤ x.2.2.1 ∧ x.2.2.1 ≤ 4294967295) (h : itemOk x = true) (s : List UInt8) : itemRF (itemB x ++ s) = (x, s, 0) := by
  unfold itemRF
  have hl := itemB_len x
  rw [imk_item hw h, h, decide_eq_false (by rw [List.length_append, hl]; omega), List.drop_left' hl]
  rfl
theorem allG_zero : ∀ (l : List DItem) (out : List UInt8) (i : Nat), (allG out i l).2 = 0 → allG out i l = (out ++ l.flatMap itemB, 0) ∧ (∀ x ∈ l, itemOk x = true) ∧ (l = [] ∨ i + l.length ≤ 48)
  | [], out, i, _ => ⟨by simp [allG], fun x hx => (by cases hx), .inl rfl⟩
  | x :: l, out, i, h => by
    rw [allG] at h ⊢
    cases hx : itemOk x with
    | false =>
      have : (itemF x).2 = 1 := by unfold itemF; rw [hx]; rfl
      rw [this] at h; simp at h
    | true =>
      have e : itemF x = (itemB x, 0) := by unfold itemF; rw [hx]; rfl
      rw [e] at h ⊢
      simp only [bne_self_eq_false, cond_false] at h ⊢
      by_cases h48 : (i : Int) ≥ 48
      · rw [decide_eq_true h48] at h; simp at h
      · rw [decide_eq_false h48] at h ⊢
        simp only [cond_false] at h ⊢
        obtain ⟨h1, h2, h3⟩ := allG_zero l _ _ h
        refine ⟨by rw [h1, List.flatMap_cons, List.append_assoc], fun y hy => ?_, .inr ?_⟩
        · rcases List.mem_cons.1 hy with rfl | hy
          · exact hx
          · exact h2 y hy
        · rw [List.length_cons]
          rcases h3 with rfl | h3
          · simp; omega
          · omega
theorem allG_ok : ∀ (l : List DItem) (out : List UInt8) (i : Nat), (∀ x ∈ l, itemOk x = true) → i + l.length ≤ 48 → allG out i l = (out ++ l.flatMap itemB, 0)
  | [], out, i, _, _ => by simp [allG]
  | x :: l, out, i, h, hl => by
    have e : itemF x = (itemB x, 0) := by unfold itemF; rw [h x (by simp)]; rfl
    rw [List.length_cons] at hl
    rw [allG, e]
    simp only [bne_self_eq_false, cond_false]
    rw [decide_eq_false (by omega)]
    simp only [cond_false]
    rw [allG_ok l _ _ (fun y hy => h y (by simp [hy])) (by omega), List.flatMap_cons, List.append_assoc]
def wtI (x : DItem) : Prop := 0 ≤ x.2.2.1 ∧ x.2.2.1 ≤ 4294967295
theorem unallG_back : ∀ (l : List DItem) (k : Nat) (o : List DItem), (∀ x ∈ l, wtI x ∧ itemOk x = true) → l.length < k → o.length + l.length ≤ 48 → unallG k o (l.flatMap itemB) = (o ++ l, 0)
  | [], k + 1, o, _, _, _ => by simp [unallG]
  | x :: l, k + 1, o, h, hk, hl => by
    rw [List.length_cons] at hk hl
    obtain ⟨h1, h2⟩ := h x (by simp)
    have e := itemR_back h1 h2 (l.flatMap itemB)
    have hne : (itemB x ++ l.flatMap itemB).isEmpty = false := by
      have := itemB_len x
      cases hb : itemB x with
      | nil => rw [hb] at this; cases this
      | cons _ _ => rfl
    rw [List.flatMap_cons, unallG, hne, e]
    simp only [bne_self_eq_false, cond_false]
    rw [decide_eq_false (by omega)]
    simp only [cond_false]
    rw [unallG_back l k _ (fun y hy => h y (by simp [hy])) (by omega) (by simp; omega), List.append_assoc]
    rfl
theorem flat_len (l : List DItem) : (l.flatMap itemB).length = 6 * l.length := by
  induction l with
  | nil => rfl
  | cons x l ih => rw [List.flatMap_cons, List.length_append, itemB_len, ih, List.length_cons]; omega
structure PartIn (p : DPart) : Prop where
  from0 : 0 ≤ p.1
  from1 : p.1 < 16
  seq0 : 0 ≤ p.2.2.1
  seq1 : p.2.2.1 ≤ 65535
  len : p.2.2.2.2.length ≤ 6
  items : ∀ x ∈ p.2.2.2.2, wtI x ∧ itemOk x = true
  pair : wt gPair p.2.1
theorem PartIn.body {p : DPart} (h : PartIn p) : bodyF p.2.2.2.2 = (p.2.2.2.2.flatMap itemB, true) := by
  have e : allF p.2.2.2.2 = (p.2.2.2.2.flatMap itemB, 0) := by
    have := allG_ok p.2.2.2.2 [] 0 (fun x hx => (h.items x hx).2) (by have := h.len; omega)
    simpa [allF] using this
  unfold bodyF
  rw [e]
  have := flat_len p.2.2.2.2
  have h6 := h.len
  rw [decide_eq_true (by rw [this]; omega)]
  rfl
theorem PartIn.ok {p : DPart} (h : PartIn p) : pokF p = true := by
  unfold pokF
  rw [h.body, rightF_iff.2 ⟨h.from0, h.from1⟩, decide_eq_true (show p.2.2.1 ≥ 0 from h.seq0), decide_eq_true h.seq1]
  rfl
theorem num_two {n : Int} (h0 : 0 ≤ n) (h1 : n ≤ 65535) (s : List UInt8) : big2 (numF (IntKind.wrap IntKind.u64 n) 2 ++ s) = n := by
  unfold big2
  rw [List.take_left' (numF_len2 _), u64_id h0 (by omega)]
  show (bigN (numB 2 n.toNat) : Int) = n
  rw [bigN_num, Nat.mod_eq_of_lt (by have : (256 : Nat) ^ 2 = 65536 := by decide
                                     omega)]
  omega
theorem partB_parts {p : DPart} (h : PartIn p) : partB p = UInt8.ofNat p.1.toNat :: (pairB p.2.1 ++ (numF (IntKind.wrap IntKind.u64 p.2.2.1) 2 ++ (UInt8.ofNat (bif p.2.2.2.1 then 1 else 0) :: p.2.2.2.2.flatMap itemB))) := by
  unfold partB
  rw [h.body, u64_id h.from0 (by have := h.from1; omega), num_one h.from0 (by have := h.from1; omega)]
  have e : numF (bif p.2.2.2.1 then (1 : Int) else (0 : Int)) 1 = [UInt8.ofNat (bif p.2.2.2.1 then 1 else 0)] := by
    cases p.2.2.2.1 <;> decide
  rw [e]
  simp
theorem PartIn.blen {p : DPart} (h : PartIn p) : (partB p).length = 20 + 6 * p.2.2.2.2.length := by
  rw [partB_parts h]
  simp only [List.length_cons, List.length_append, pairB_len, numF_len2, flat_len]
  omega
theorem part_back {p : DPart} (h : PartIn p) : partRF (partB p) = (p, 0) := by
  have hlen := h.blen
  have h6 := h.len
  have hb := partB_parts h
  have hpl : (pairB p.2.1).length = 16 := pairB_len _
  have hnl := numF_len2 (IntKind.wrap IntKind.u64 p.2.2.1)
  have d20 : (partB p).drop 20 = p.2.2.2.2.flatMap itemB := by
    rw [hb, show (20 : Nat) = 1 + (16 + (2 + 1)) from rfl, ← List.drop_drop, List.drop_succ_cons, List.drop_zero, ← List.drop_drop, List.drop_left' hpl, ← List.drop_drop, List.drop_left' hnl]
    rfl
  have d17 : (partB p).drop 17 = numF (IntKind.wrap IntKind.u64 p.2.2.1) 2 ++ (UInt8.ofNat (bif p.2.2.2.1 then 1 else 0) :: p.2.2.2.2.flatMap itemB) := by
    rw [hb, show (17 : Nat) = 1 + 16 from rfl, ← List.drop_drop, List.drop_succ_cons, List.drop_zero, List.drop_left' hpl]
  have b0 : byteN (partB p) 0 = p.1 := by
    rw [hb]
    exact byte_of h.from0 (by have := h.from1; omega)
  have b19 : byteN (partB p) 19 = bif p.2.2.2.1 then 1 else 0 := by
    have : (partB p).getD 19 0 = ((partB p).drop 17).getD 2 0 := by simp [List.getD]
    unfold byteN
    rw [this, d17]
    generalize numF (IntKind.wrap IntKind.u64 p.2.2.1) 2 = l at hnl ⊢
    match l, hnl with
    | [_, _], _ =>
      show ((UInt8.ofNat (bif p.2.2.2.1 then 1 else 0)).toNat : Int) = _
      cases p.2.2.2.1 <;> rfl
  have hun : unallF ((partB p).drop 20) = (p.2.2.2.2, 0) := by
    rw [d20]
    have := unallG_back p.2.2.2.2 50 [] h.items (by omega) (by simp; omega)
    simpa [unallF] using this
  have t20 : ((partB p).take 20).drop 1 = pairB p.2.1 ++ ((numF (IntKind.wrap IntKind.u64 p.2.2.1) 2 ++ (UInt8.ofNat (bif p.2.2.2.1 then 1 else 0) :: p.2.2.2.2.flatMap itemB)).take 3) := by
    rw [hb, List.take_succ_cons, List.drop_succ_cons, List.drop_zero, List.take_append, hpl, List.take_of_length_le (by omega)]
  have hmk : ptmkF (partB p) = p := by
    unfold ptmkF
    rw [b0, t20, d17, b19, hun, read_pair h.pair, num_two h.seq0 h.seq1]
    cases hm : p.2.2.2.1 with
    | true =>
      show (p.1, p.2.1, p.2.2.1, true, p.2.2.2.2) = p
      rw [← hm]
    | false =>
      show (p.1, p.2.1, p.2.2.1, false, p.2.2.2.2) = p
      rw [← hm]
  unfold partRF
  rw [hun, hmk, b0, b19, rightF_iff.2 ⟨h.from0, h.from1⟩, decide_eq_false (by rw [hlen]; omega), decide_eq_false (by rw [hlen]; omega)]
  cases p.2.2.2.1 <;> rfl
structure AckIn (a : DAck) : Prop where
  from0 : 0 ≤ a.1
  from1 : a.1 < 16
  next0 : 0 ≤ a.2.2.1
  next1 : a.2.2.1 ≤ 65535
  bits0 : 0 ≤ a.2.2.2
  bits1 : a.2.2.2 ≤ 255
  pair : wt gPair a.2.1
theorem AckIn.ok {a : DAck} (h : AckIn a) : aokF a = true := by
  unfold aokF nearF
  rw [rightF_iff.2 ⟨h.from0, h.from1⟩, decide_eq_true (show a.2.2.1 ≥ 0 from h.next0), decide_eq_true h.next1, decide_eq_true (show a.2.2.2 ≥ 0 from h.bits0), decide_eq_true h.bits1]
  rfl
theorem ackB_parts {a : DAck} (h : AckIn a) : ackB a = UInt8.ofNat a.1.toNat :: (pairB a.2.1 ++ (numF (IntKind.wrap IntKind.u64 a.2.2.1) 2 ++ [UInt8.ofNat a.2.2.2.toNat])) := by
  unfold ackB
  rw [u64_id h.from0 (by have := h.from1; omega), num_one h.from0 (by have := h.from1; omega), u64_id h.bits0 (by have := h.bits1; omega), num_one h.bits0 (by have := h.bits1; omega)]
  simp
theorem ackB_len {a : DAck} (h : AckIn a) : (ackB a).length = 20 := by
  rw [ackB_parts h]
  simp only [List.length_cons, List.length_append, pairB_len, numF_len2, List.length_nil]
theorem ack_back {a : DAck} (h : AckIn a) : ackRF (ackB a) = (a, 0) := by
  have hlen := ackB_len h
  have hb := ackB_parts h
  have hpl : (pairB a.2.1).length = 16 := pairB_len _
  have hnl := numF_len2 (IntKind.wrap IntKind.u64 a.2.2.1)
  have d17 : (ackB a).drop 17 = numF (IntKind.wrap IntKind.u64 a.2.2.1) 2 ++ [UInt8.ofNat a.2.2.2.toNat] := by
    rw [hb, show (17 : Nat) = 1 + 16 from rfl, ← List.drop_drop, List.drop_succ_cons, List.drop_zero, List.drop_left' hpl]
  have b0 : byteN (ackB a) 0 = a.1 := by
    rw [hb]
    exact byte_of h.from0 (by have := h.from1; omega)
  have b19 : byteN (ackB a) 19 = a.2.2.2 := by
    have : (ackB a).getD 19 0 = ((ackB a).drop 17).getD 2 0 := by simp [List.getD]
    unfold byteN
    rw [this, d17]
    generalize numF (IntKind.wrap IntKind.u64 a.2.2.1) 2 = l at hnl ⊢
    match l, hnl with
    | [_, _], _ => exact byte_of h.bits0 (by have := h.bits1; omega)
  have hd : (ackB a).drop 1 = pairB a.2.1 ++ (numF (IntKind.wrap IntKind.u64 a.2.2.1) 2 ++ [UInt8.ofNat a.2.2.2.toNat]) := by rw [hb]; rfl
  have hmk : amkF (ackB a) = a := by
    unfold amkF
    rw [b0, b19, d17, hd, read_pair h.pair, num_two h.next0 h.next1]
  unfold ackRF
  rw [hmk, b0, rightF_iff.2 ⟨h.from0, h.from1⟩, decide_eq_false (by rw [hlen]; omega), decide_eq_false (by rw [hlen]; omega)]
  rfl
/-! Frames -/
def frPart (p : DPart) : List UInt8 := sealF (frameT 2 (partB p))
def frAck (a : DAck) : List UInt8 := sealF (frameT 3 (ackB a))
theorem fpart_in {p : DPart} (h : PartIn p) : fpartF p = (frPart p, 0) := by
  unfold fpartF partF
  rw [h.ok]
  show wrapF 2 (partB p) = _
  exact wrap_in (by omega) (by omega) (by rw [h.blen]; have := h.len; omega)
def fackF (a : DAck) : List UInt8 × Int := wrappedF 3 (ackF a).1 (ackF a).2
theorem fack_in {a : DAck} (h : AckIn a) : fackF a = (frAck a, 0) := by
  unfold fackF ackF
  rw [h.ok]
  show wrapF 3 (ackB a) = _
  exact wrap_in (by omega) (by omega) (by rw [ackB_len h]; omega)
def toldF (s : List UInt8) : DPart × Bool := ((partRF (openF s).2.1).1, bif bif (openF s).2.2 == (0 : Int) then (partRF (openF s).2.1).2 == (0 : Int) else false then (openF s).1 == (2 : Int) else false)
def cameF (s : List UInt8) : DAck × Bool := ((ackRF (openF s).2.1).1, bif bif (openF s).2.2 == (0 : Int) then (ackRF (openF s).2.1).2 == (0 : Int) else false then (openF s).1 == (3 : Int) else false)
theorem told_part {p : DPart} (h : PartIn p) : toldF (frPart p) = (p, true) := by
  unfold toldF frPart
  rw [open_in (by omega) (by omega) (by rw [h.blen]; have := h.len; omega)]
  simp only
  rw [part_back h]
  rfl
theorem came_ack {a : DAck} (h : AckIn a) : cameF (frAck a) = (a, true) := by
  unfold cameF frAck
  rw [open_in (by omega) (by omega) (by rw [ackB_len h]; omega)]
  simp only
  rw [ack_back h]
  rfl
end Go.Ev
/- A session, in plain Lean: bits of acks, the window, what is gathered. -/
set_option linter.unusedVariables false
set_option linter.unusedSimpArgs false
namespace Go.Ev
def bitsAll : Bool := (List.range 256).all fun b => (List.range 8).all fun j =>
  (bitsOp .or .i64 (b : Int) (bitT.getD j 0) == ((b ||| 2 ^ j : Nat) : Int)) && decide (b ||| 2 ^ j < 256) && ((bitsOp .and .i64 (b : Int) (bitT.getD j 0) != 0) == Nat.testBit b j)
theorem bits_all : bitsAll = true := by kernel_rfl
theorem bits_at {b j : Nat} (hb : b < 256) (hj : j < 8) : bitsOp .or .i64 (b : Int) (bitT.getD j 0) = ((b ||| 2 ^ j : Nat) : Int) ∧ b ||| 2 ^ j < 256 ∧ (bitsOp .and .i64 (b : Int) (bitT.getD j 0) != 0) = Nat.testBit b j := by
  have h := List.all_eq_true.1 bits_all b (List.mem_range.2 hb)
  have h2 := List.all_eq_true.1 h j (List.mem_range.2 hj)
  rw [Bool.and_eq_true, Bool.and_eq_true] at h2
  exact ⟨by simpa using h2.1.1, by simpa using h2.1.2, by simpa using h2.2⟩
theorem fold_bits {n : Int} : ∀ (l : List Int) (b : Nat), b < 256 → ∃ c : Nat, c < 256 ∧ l.foldl (orBit n) (b : Int) = (c : Int) ∧ ∀ j, j < 8 → Nat.testBit c j = true → Nat.testBit b j = true ∨ n + j ∈ l
  | [], b, hb => ⟨b, hb, rfl, fun j _ h => .inl h⟩
  | q :: l, b, hb => by
    rw [List.foldl_cons]
    by_cases h : q ≥ n ∧ q - n < 8
    · have hj : (q - n).toNat < 8 := by omega
      obtain ⟨h1, h2, _⟩ := bits_at hb hj
      have e : orBit n (b : Int) q = ((b ||| 2 ^ (q - n).toNat : Nat) : Int) := by
        unfold orBit
        rw [decide_eq_true h.1, cond_true, decide_eq_true h.2, cond_true]
        exact h1
      rw [e]
      obtain ⟨c, hc, hc2, hc3⟩ := fold_bits (n := n) l _ h2
      refine ⟨c, hc, hc2, fun j hj8 ht => ?_⟩
      rcases hc3 j hj8 ht with h3 | h3
      · rw [Nat.testBit_or, Bool.or_eq_true] at h3
        rcases h3 with h3 | h3
        · exact .inl h3
        · rw [Nat.testBit_two_pow] at h3
          have : (q - n).toNat = j := by simpa using h3
          exact .inr (List.mem_cons.2 (.inl (by omega)))
      · exact .inr (List.mem_cons.2 (.inr h3))
    · have e : orBit n (b : Int) q = (b : Int) := by
        unfold orBit
        by_cases h1 : q ≥ n
        · rw [decide_eq_true h1, cond_true, decide_eq_false (by omega), cond_false]
        · rw [decide_eq_false h1, cond_false, cond_false]
      rw [e]
      obtain ⟨c, hc, hc2, hc3⟩ := fold_bits (n := n) l b hb
      exact ⟨c, hc, hc2, fun j hj8 ht => (hc3 j hj8 ht).imp id fun h3 => List.mem_cons.2 (.inr h3)⟩
theorem ack_says {f : Int} {p : DPair} {n : Int} {l : List Int} (h0 : 0 ≤ n) : ∃ c : Nat, c < 256 ∧ bitsA n l = (n, (c : Int)) ∧ ∀ q, hasA (f, p, n, (c : Int)) q = true → q < n ∨ q ∈ l := by
  obtain ⟨c, hc, hc2, hc3⟩ := fold_bits (n := n) l 0 (by omega)
  refine ⟨c, hc, ?_, fun q hq => ?_⟩
  · unfold bitsA
    rw [decide_eq_false (by omega), cond_false]
    rw [show ((0 : Nat) : Int) = 0 from rfl] at hc2
    rw [hc2]
  · unfold hasA at hq
    simp only at hq
    by_cases h1 : q < n
    · exact .inl h1
    · rw [decide_eq_false h1, cond_false, decide_eq_false (by omega : ¬ n < 0), cond_false] at hq
      by_cases h2 : q > 65535
      · rw [decide_eq_true h2] at hq; cases hq
      · rw [decide_eq_false h2, cond_false] at hq
        by_cases h3 : q - n ≥ 8
        · rw [decide_eq_true h3] at hq; cases hq
        · rw [decide_eq_false h3, cond_false] at hq
          have hj : (q - n).toNat < 8 := by omega
          rw [(bits_at hc hj).2.2] at hq
          rcases hc3 _ hj hq with h4 | h4
          · simp at h4
          · exact .inr (by rwa [show n + ((q - n).toNat : Nat) = q by omega] at h4)
theorem has_below {a : DAck} {q : Int} (h : q < a.2.2.1) : hasA a q = true := by
  unfold hasA
  rw [decide_eq_true h]; rfl
/-! The window -/
theorem put_nil (p : DPart) : putF [] p = [p] := rfl
theorem put_cons (x : DPart) (l : List DPart) (p : DPart) : putF (x :: l) p = bif decide (x.2.2.1 > p.2.2.1) then p :: x :: l else x :: putF l p := by
  unfold putF
  rw [List.takeWhile_cons, List.dropWhile_cons]
  cases h : decide (x.2.2.1 > p.2.2.1) <;> simp
theorem mem_put {y p : DPart} : ∀ {l : List DPart}, y ∈ putF l p ↔ y = p ∨ y ∈ l
  | [] => by rw [put_nil]; simp
  | x :: l => by
    rw [put_cons]
    cases decide (x.2.2.1 > p.2.2.1) with
    | true => simp
    | false =>
      simp only [cond_false, List.mem_cons, mem_put (l := l)]
      constructor
      · rintro (h | h | h)
        · exact .inr (.inl h)
        · exact .inl h
        · exact .inr (.inr h)
      · rintro (h | h | h)
        · exact .inr (.inl h)
        · exact .inl h
        · exact .inr (.inr h)
abbrev Rise (l : List DPart) : Prop := l.Pairwise fun x y => x.2.2.1 < y.2.2.1
def upTo (F : Nat → DPart) (m k : Nat) : List DPart := (List.range k).map fun j => F (m + j)
theorem upTo_succ (F : Nat → DPart) (m k : Nat) : upTo F m (k + 1) = F m :: upTo F (m + 1) k := by
  unfold upTo
  rw [List.range_succ_eq_map, List.map_cons, List.map_map]
  congr 1
  refine List.map_congr_left fun j _ => ?_
  show F (m + (j + 1)) = F (m + 1 + j)
  congr 1
  omega
section
variable {F : Nat → DPart} (hF : ∀ i, (F i).2.2.1 = (i : Int))
include hF
end
structure WinOK (F : Nat → DPart) (N m : Nat) (A : List DPart) : Prop where
  le : m ≤ N
  rise : Rise A
  mem : ∀ x ∈ A, ∃ i, x = F i ∧ m < i ∧ i < N ∧ i < m + 8
def Recv (F : Nat → DPart) (m : Nat) (A : List DPart) (i : Nat) : Prop := i < m ∨ F i ∈ A
section
variable {F : Nat → DPart} (hF : ∀ i, (F i).2.2.1 = (i : Int)) {N m : Nat} {A : List DPart}
include hF
theorem F_inj {i j : Nat} (h : F i = F j) : i = j := by
  have h1 := hF i
  have h2 := hF j
  rw [h] at h1
  omega
theorem recv_next (hw : WinOK F N m A) : ¬ Recv F m A m := by
  rintro (h | h)
  · omega
  · obtain ⟨i, hi, h1, _⟩ := hw.mem _ h
    have := F_inj hF hi
    omega
end
/-! What is gathered -/
def gatherGo : List DItem → List (List DItem) → List DPart → List DItem × List (List DItem) × Int
  | g, ms, [] => (g, ms, 0)
  | g, ms, x :: l => bif (gatherF g x).2.2.2 != (0 : Int) then ([], [], (gatherF g x).2.2.2) else gatherGo (gatherF g x).1 (bif (gatherF g x).2.2.1 then ms ++ [(gatherF g x).2.1] else ms) l
abbrev DPs := List (Bool × List DItem)
def stepD (s : List (List DItem) × List DItem) (x : Bool × List DItem) : List (List DItem) × List DItem := bif x.1 then (s.1, s.2 ++ x.2) else (s.1 ++ [s.2 ++ x.2], [])
def decD (ps : DPs) : List (List DItem) × List DItem := ps.foldl stepD ([], [])
def partN (h : DHello) (ps : DPs) (i : Nat) : DPart := (h.1, h.2, (i : Int), (ps.getD i (false, [])).1, (ps.getD i (false, [])).2)
theorem partN_seq (h : DHello) (ps : DPs) (i : Nat) : (partN h ps i).2.2.1 = (i : Int) := rfl
def GoodP (ps : DPs) : Prop := ∀ i, i < ps.length → (decD (ps.take i)).2.length + (ps.getD i (false, [])).2.length ≤ 48
theorem dec_take {ps : DPs} {m : Nat} (h : m < ps.length) : decD (ps.take (m + 1)) = stepD (decD (ps.take m)) (ps.getD m (false, [])) := by
  unfold decD
  rw [List.take_add_one, List.foldl_append]
  simp [List.getD, h]
theorem gather_spec {h : DHello} {ps : DPs} (hg : GoodP ps) : ∀ (k m : Nat) (got ms0 : List (List DItem)) (g : List DItem), m + k ≤ ps.length → decD (ps.take m) = (got, g) →
    ∃ ms g', gatherGo g ms0 (upTo (partN h ps) m k) = (g', ms0 ++ ms, 0) ∧ decD (ps.take (m + k)) = (got ++ ms, g')
  | 0, m, got, ms0, g, _, hd => ⟨[], g, by simp [upTo, gatherGo], by simpa using hd⟩
  | k + 1, m, got, ms0, g, hl, hd => by
    have hm : m < ps.length := by omega
    have h48 := hg m hm
    rw [hd] at h48
    simp only at h48
    have hnext := dec_take hm
    rw [hd] at hnext
    rw [upTo_succ, gatherGo]
    have e : gatherF g (partN h ps m) = bif (ps.getD m (false, [])).1 then (g ++ (ps.getD m (false, [])).2, [], false, 0) else ([], g ++ (ps.getD m (false, [])).2, true, 0) := by
      unfold gatherF partN
      simp only
      rw [decide_eq_false (by omega), cond_false, decide_eq_false (by omega), cond_false]
    rw [e]
    unfold stepD at hnext
    generalize ps.getD m (false, []) = x at *
    cases hx : x.1 with
    | true =>
      rw [hx] at hnext
      simp only [cond_true, bne_self_eq_false, cond_false] at hnext ⊢
      obtain ⟨ms, g', h1, h2⟩ := gather_spec hg k (m + 1) got ms0 _ (by omega) hnext
      exact ⟨ms, g', h1, by rw [show m + (k + 1) = m + 1 + k by omega]; exact h2⟩
    | false =>
      rw [hx] at hnext
      simp only [cond_true, bne_self_eq_false, cond_false] at hnext ⊢
      obtain ⟨ms, g', h1, h2⟩ := gather_spec hg k (m + 1) _ (ms0 ++ [g ++ x.2]) _ (by omega) hnext
      exact ⟨(g ++ x.2) :: ms, g', by rw [h1, List.append_assoc]; rfl, by rw [show m + (k + 1) = m + 1 + k by omega, h2, List.append_assoc]; rfl⟩
end Go.Ev
/- A session, in plain Lean: what is sent, heard and acknowledged; at last all has come. -/
set_option linter.unusedVariables false
set_option linter.unusedSimpArgs false
namespace Go.Ev
def sendGo (h : DHello) (t : Int) : Int → List (List DItem) → List DKept × List (List UInt8)
  | _, [] => ([], [])
  | n, x :: l => ((n, (fpartF (h.1, h.2, n, !l.isEmpty, x)).1, 1, t) :: (sendGo h t (n + 1) l).1, (fpartF (h.1, h.2, n, !l.isEmpty, x)).1 :: (sendGo h t (n + 1) l).2)
def tooF (b : DMrl) (n : Int) : Bool := decide (n > max (8 - (b.2.1.length : Int)) 0)
def sendF (b : DMrl) (h : DHello) (l : List DItem) (r : DRules) : DMrl × List (List UInt8) × Int :=
  bif (msplitF l).2 != (0 : Int) then (b, [], (msplitF l).2) else bif tooF b ((msplitF l).1.length : Int) then (b, [], 8)
  else ((b.1 + ((msplitF l).1.length : Int), b.2.1 ++ (sendGo h r.2.2.1 b.1 (msplitF l).1).1, b.2.2), (sendGo h r.2.2.1 b.1 (msplitF l).1).2, 0)
def hearF (b : DMrl) (h : DHello) (p : DPart) : DMrl × List UInt8 × List (List DItem) × Int :=
  bif (bif (wtakeF b.2.2.1 p).2.2 != (0 : Int) then (wtakeF b.2.2.1 p).2.2 != (6 : Int) else false) then (b, [], [], (wtakeF b.2.2.1 p).2.2)
  else bif (gatherGo b.2.2.2 [] (wtakeF b.2.2.1 p).2.1).2.2 != (0 : Int) then (b, [], [], (gatherGo b.2.2.2 [] (wtakeF b.2.2.1 p).2.1).2.2)
  else bif (fackF (h.1, h.2, bitsA (wtakeF b.2.2.1 p).1.1 (seqsF (wtakeF b.2.2.1 p).1))).2 != (0 : Int) then (b, [], [], (fackF (h.1, h.2, bitsA (wtakeF b.2.2.1 p).1.1 (seqsF (wtakeF b.2.2.1 p).1))).2)
  else ((b.1, b.2.1, (wtakeF b.2.2.1 p).1, (gatherGo b.2.2.2 [] (wtakeF b.2.2.1 p).2.1).1), (fackF (h.1, h.2, bitsA (wtakeF b.2.2.1 p).1.1 (seqsF (wtakeF b.2.2.1 p).1))).1, (gatherGo b.2.2.2 [] (wtakeF b.2.2.1 p).2.1).2.1, (wtakeF b.2.2.1 p).2.2)
def idleF (b : DMrl) : Bool := bif bif (b.2.1.length : Int) == (0 : Int) then (b.2.2.1.2.length : Int) == (0 : Int) else false then (b.2.2.2.length : Int) == (0 : Int) else false
/-! Pieces -/
theorem pieces_flat : ∀ (f : Nat) (l : List DItem), (piecesF 6 f l).flatten = l
  | 0, l => by simp [piecesF]
  | f + 1, l => by
    rw [piecesF]
    cases decide (l.length > 6) with
    | true => rw [cond_true, List.flatten_cons, pieces_flat f, List.take_append_drop]
    | false => simp
theorem pieces_most : ∀ (f : Nat) (l : List DItem), l.length ≤ f → ∀ x ∈ piecesF 6 f l, x.length ≤ 6 ∧ ∀ y ∈ x, y ∈ l
  | 0, l, h, x, hx => by
    have : x = l := by simpa [piecesF] using hx
    subst this
    exact ⟨by omega, fun y hy => hy⟩
  | f + 1, l, h, x, hx => by
    rw [piecesF] at hx
    cases hd : decide (l.length > 6) with
    | true =>
      have := of_decide_eq_true hd
      rw [hd, cond_true] at hx
      rcases List.mem_cons.1 hx with rfl | hx
      · exact ⟨by rw [List.length_take]; omega, fun y hy => List.mem_of_mem_take hy⟩
      · obtain ⟨h1, h2⟩ := pieces_most f (l.drop 6) (by rw [List.length_drop]; omega) x hx
        exact ⟨h1, fun y hy => List.mem_of_mem_drop (h2 y hy)⟩
    | false =>
      have := of_decide_eq_false hd
      rw [hd, cond_false] at hx
      have : x = l := by simpa using hx
      subst this
      exact ⟨by omega, fun y hy => hy⟩
theorem pieces_some : ∀ (f : Nat) (l : List DItem), piecesF 6 f l ≠ []
  | 0, l => by simp [piecesF]
  | f + 1, l => by
    rw [piecesF]
    cases decide (l.length > 6) <;> simp
theorem pieces_count : ∀ (f : Nat) (l : List DItem), 6 * ((piecesF 6 f l).length - 1) ≤ l.length - 1
  | 0, l => by simp [piecesF]
  | f + 1, l => by
    rw [piecesF]
    cases hd : decide (l.length > 6) with
    | true =>
      have := of_decide_eq_true hd
      have ih := pieces_count f (l.drop 6)
      rw [List.length_drop] at ih
      rw [cond_true, List.length_cons]
      have : (piecesF 6 f (l.drop 6)).length ≠ 0 := fun e => pieces_some f (l.drop 6) (List.eq_nil_of_length_eq_zero e)
      omega
    | false => simp
def tagP : List (List DItem) → DPs
  | [] => []
  | x :: l => (!l.isEmpty, x) :: tagP l
theorem tag_len : ∀ l : List (List DItem), (tagP l).length = l.length
  | [] => rfl
  | _ :: l => by rw [tagP, List.length_cons, List.length_cons, tag_len l]
theorem tag_dec : ∀ (l : List (List DItem)) (ms : List (List DItem)) (g : List DItem), l ≠ [] → (tagP l).foldl stepD (ms, g) = (ms ++ [g ++ l.flatten], [])
  | [x], ms, g, _ => by simp [tagP, stepD]
  | x :: y :: l, ms, g, _ => by
    rw [tagP, List.foldl_cons]
    have := tag_dec (y :: l) ms (g ++ x) (by simp)
    show (tagP (y :: l)).foldl stepD (stepD (ms, g) (true, x)) = _
    rw [show stepD (ms, g) (true, x) = (ms, g ++ x) from rfl, this, List.flatten_cons (l := x), List.append_assoc]
theorem tag_rest : ∀ (l : List (List DItem)) (ms : List (List DItem)) (g : List DItem) (i : Nat), i < l.length → ((tagP l).take i).foldl stepD (ms, g) = (ms, g ++ (l.take i).flatten)
  | [], _, _, _, h => by simp at h
  | x :: l, ms, g, 0, _ => by simp
  | x :: l, ms, g, i + 1, h => by
    rw [List.length_cons] at h
    have hne : l.isEmpty = false := by
      cases l with
      | nil => simp at h
      | cons _ _ => rfl
    rw [tagP, hne, List.take_succ_cons, List.foldl_cons, List.take_succ_cons, List.flatten_cons]
    rw [show stepD (ms, g) (!false, x) = (ms, g ++ x) from rfl, tag_rest l ms (g ++ x) i (by omega), List.append_assoc]
theorem tag_get : ∀ (l : List (List DItem)) (i : Nat), i < l.length → (tagP l).getD i (false, []) = (!(l.drop (i + 1)).isEmpty, l.getD i [])
  | [], _, h => by simp at h
  | x :: l, 0, _ => by simp [tagP]
  | x :: l, i + 1, h => by
    rw [List.length_cons] at h
    rw [tagP, List.getD_cons_succ, tag_get l i (by omega), List.drop_succ_cons, List.getD_cons_succ]
theorem flat_take_le : ∀ (l : List (List DItem)) (i : Nat), i < l.length → (l.take i).flatten.length + (l.getD i []).length ≤ l.flatten.length
  | [], _, h => by simp at h
  | x :: l, 0, _ => by simp
  | x :: l, i + 1, h => by
    rw [List.length_cons] at h
    have := flat_take_le l i (by omega)
    rw [List.take_succ_cons, List.flatten_cons, List.flatten_cons, List.getD_cons_succ, List.length_append, List.length_append]
    omega
/-! A session -/
abbrev RiseK (S : List DKept) : Prop := S.Pairwise fun x y => x.1 < y.1
structure Sess (h : DHello) (ps : DPs) (S : List DKept) (m : Nat) (A : List DPart) (g : List DItem) (got : List (List DItem)) : Prop where
  win : WinOK (partN h ps) ps.length m A
  dec : decD (ps.take m) = (got, g)
  good : GoodP ps
  right : ∀ i, i < ps.length → PartIn (partN h ps i)
  most : ps.length ≤ 60000
  rise : RiseK S
  kept : ∀ x ∈ S, ∃ i, i < ps.length ∧ x.1 = (i : Int) ∧ x.2.1 = frPart (partN h ps i)
  cover : ∀ i, i < ps.length → (∃ x ∈ S, x.1 = (i : Int)) ∨ Recv (partN h ps) m A i
theorem sess_new (h : DHello) : Sess h [] [] 0 [] [] [] :=
  ⟨⟨Nat.le_refl _, List.Pairwise.nil, fun x hx => (by cases hx)⟩, rfl, fun i hi => (by cases hi), fun i hi => (by cases hi), by simp, List.Pairwise.nil, fun x hx => (by cases hx), fun i hi => (by cases hi)⟩
theorem getD_app_left {α : Type} {l r : List α} {i : Nat} (d : α) (h : i < l.length) : (l ++ r).getD i d = l.getD i d := by
  simp only [List.getD_eq_getElem?_getD]
  rw [List.getElem?_append_left h]
theorem getD_app_right {α : Type} {l r : List α} {i : Nat} (d : α) : (l ++ r).getD (l.length + i) d = r.getD i d := by
  simp only [List.getD_eq_getElem?_getD]
  rw [List.getElem?_append_right (by omega), show l.length + i - l.length = i by omega]
theorem partN_old {h : DHello} {ps qs : DPs} {i : Nat} (hi : i < ps.length) : partN h (ps ++ qs) i = partN h ps i := by
  unfold partN
  rw [getD_app_left _ hi]
theorem partN_new {h : DHello} {ps : DPs} {pcs : List (List DItem)} {i : Nat} (hi : i < pcs.length) : partN h (ps ++ tagP pcs) (ps.length + i) = (h.1, h.2, ((ps.length + i : Nat) : Int), !(pcs.drop (i + 1)).isEmpty, pcs.getD i []) := by
  unfold partN
  rw [getD_app_right, tag_get _ _ hi]
theorem sendGo_spec {h : DHello} {ps : DPs} {t : Int} : ∀ (l pre : List (List DItem)), (∀ i, i < (pre ++ l).length → PartIn (partN h (ps ++ tagP (pre ++ l)) (ps.length + i))) →
    (∀ x ∈ (sendGo h t ((ps.length + pre.length : Nat) : Int) l).1, ∃ i, pre.length ≤ i ∧ i < (pre ++ l).length ∧ x = (((ps.length + i : Nat) : Int), frPart (partN h (ps ++ tagP (pre ++ l)) (ps.length + i)), 1, t)) ∧
    RiseK (sendGo h t ((ps.length + pre.length : Nat) : Int) l).1 ∧
    (∀ i, pre.length ≤ i → i < (pre ++ l).length → ∃ x ∈ (sendGo h t ((ps.length + pre.length : Nat) : Int) l).1, x.1 = ((ps.length + i : Nat) : Int)) ∧
    (sendGo h t ((ps.length + pre.length : Nat) : Int) l).2 = (List.range l.length).map (fun j => frPart (partN h (ps ++ tagP (pre ++ l)) (ps.length + pre.length + j)))
  | [], pre, _ => ⟨fun x hx => (by cases hx), List.Pairwise.nil, fun i h1 h2 => (by rw [List.append_nil] at h2; omega), rfl⟩
  | x :: l, pre, hp => by
    have e : pre ++ x :: l = (pre ++ [x]) ++ l := by simp
    have hlen : (pre ++ [x]).length = pre.length + 1 := by simp
    have hp0 := hp pre.length (by simp)
    have e0 : partN h (ps ++ tagP (pre ++ x :: l)) (ps.length + pre.length) = (h.1, h.2, ((ps.length + pre.length : Nat) : Int), !l.isEmpty, x) := by
      rw [partN_new (by simp)]
      have d1 : (pre ++ x :: l).drop (pre.length + 1) = l := by rw [e]; exact List.drop_left' hlen
      have d2 : (pre ++ x :: l).getD pre.length [] = x := by
        simp
      rw [d1, d2]
    have hf := fpart_in hp0
    rw [e0] at hf
    obtain ⟨i1, i2, i3, i4⟩ := sendGo_spec (h := h) (ps := ps) (t := t) l (pre ++ [x]) (by rw [← e]; exact hp)
    have en : ((ps.length + (pre ++ [x]).length : Nat) : Int) = ((ps.length + pre.length : Nat) : Int) + 1 := by rw [hlen]; omega
    rw [en, hlen, ← e] at i1 i3
    rw [en] at i2
    rw [en, hlen, ← e] at i4
    rw [sendGo, hf]
    refine ⟨fun y hy => ?_, ?_, fun i h1 h2 => ?_, ?_⟩
    · rcases List.mem_cons.1 hy with rfl | hy
      · exact ⟨pre.length, Nat.le_refl _, by simp, by rw [e0]⟩
      · obtain ⟨i, h1, h2, h3⟩ := i1 y hy
        exact ⟨i, by omega, h2, h3⟩
    · refine List.pairwise_cons.2 ⟨fun y hy => ?_, i2⟩
      obtain ⟨i, h1, h2, h3⟩ := i1 y hy
      rw [h3]
      show ((ps.length + pre.length : Nat) : Int) < ((ps.length + i : Nat) : Int)
      omega
    · by_cases hi : i = pre.length
      · subst hi
        exact ⟨_, List.mem_cons_self .., rfl⟩
      · obtain ⟨y, hy, hy2⟩ := i3 i (by omega) h2
        exact ⟨y, List.mem_cons_of_mem _ hy, hy2⟩
    · rw [i4, List.length_cons, List.range_succ_eq_map, List.map_cons, List.map_map]
      have e5 : frPart (partN h (ps ++ tagP (pre ++ x :: l)) (ps.length + pre.length + 0)) = frPart (h.1, h.2, ((ps.length + pre.length : Nat) : Int), !l.isEmpty, x) := by rw [Nat.add_zero, e0]
      rw [e5]
      show (frPart (h.1, h.2, ((ps.length + pre.length : Nat) : Int), !l.isEmpty, x)) :: _ = _ :: _
      congr 1
      refine List.map_congr_left fun j _ => ?_
      show frPart (partN h _ (ps.length + (pre.length + 1) + j)) = frPart (partN h _ (ps.length + pre.length + (j + 1)))
      rw [show ps.length + (pre.length + 1) + j = ps.length + pre.length + (j + 1) by omega]
structure MsgIn (l : List DItem) : Prop where
  len : l.length ≤ 48
  ok : ∀ x ∈ l, wtI x ∧ itemOk x = true
theorem split_in {l : List DItem} (hw : ∀ x ∈ l, wtI x) (h : (msplitF l).2 = 0) : MsgIn l ∧ msplitF l = (piecesF 6 l.length l, 0) := by
  unfold msplitF at h ⊢
  by_cases h1 : (l.length : Int) > 48
  · rw [decide_eq_true h1] at h; cases h
  · rw [decide_eq_false h1, cond_false] at h ⊢
    cases h2 : (allF l).2 != 0 with
    | true =>
      rw [h2, cond_true] at h
      rw [show (allF l).2 = 0 from h] at h2
      cases h2
    | false =>
      have h3 : (allF l).2 = 0 := by simpa using h2
      obtain ⟨_, h4, _⟩ := allG_zero l [] 0 h3
      exact ⟨⟨by omega, fun x hx => ⟨hw x hx, h4 x hx⟩⟩, rfl⟩
theorem split_ok {l : List DItem} (h : MsgIn l) : msplitF l = (piecesF 6 l.length l, 0) := by
  unfold msplitF
  have e : allF l = (l.flatMap itemB, 0) := by
    have := allG_ok l [] 0 (fun x hx => (h.ok x hx).2) (by have := h.len; omega)
    simpa [allF] using this
  rw [e, decide_eq_false (by have := h.len; omega)]
  rfl
theorem rise_app {S T : List DKept} (hS : RiseK S) (hT : RiseK T) (h : ∀ x ∈ S, ∀ y ∈ T, x.1 < y.1) : RiseK (S ++ T) := List.pairwise_append.2 ⟨hS, hT, h⟩
theorem sess_send {h : DHello} {ps : DPs} {S : List DKept} {m : Nat} {A : List DPart} {g : List DItem} {got sent : List (List DItem)} (s : Sess h ps S m A g got) (hd : decD ps = (sent, [])) {l : List DItem} (hl : MsgIn l) (hh : 0 ≤ h.1 ∧ h.1 < 16) (hpair : wt gPair h.2) (hN : ps.length + 8 ≤ 60000) (h8 : (piecesF 6 l.length l).length ≤ 8) (t : Int) :
    ∃ qs, qs = tagP (piecesF 6 l.length l) ∧ Sess h (ps ++ qs) (S ++ (sendGo h t (ps.length : Int) (piecesF 6 l.length l)).1) m A g got ∧ decD (ps ++ qs) = (sent ++ [l], []) ∧
      (sendGo h t (ps.length : Int) (piecesF 6 l.length l)).2 = (List.range (piecesF 6 l.length l).length).map (fun j => frPart (partN h (ps ++ qs) (ps.length + j))) ∧ (∀ x ∈ (sendGo h t (ps.length : Int) (piecesF 6 l.length l)).1, x.2.2.1 = 1 ∧ x.2.2.2 = t) := by
  have hflat := pieces_flat l.length l
  have hmost := pieces_most l.length l (Nat.le_refl _)
  have hsome := pieces_some l.length l
  generalize piecesF 6 l.length l = pcs at *
  have hright : ∀ i, i < pcs.length → PartIn (partN h (ps ++ tagP pcs) (ps.length + i)) := fun i hi => by
    have hmem : pcs.getD i [] ∈ pcs := by simp [List.getD, hi]
    obtain ⟨k1, k2⟩ := hmost _ hmem
    rw [partN_new hi]
    exact ⟨hh.1, hh.2, by show (0 : Int) ≤ ((ps.length + i : Nat) : Int); omega, by show ((ps.length + i : Nat) : Int) ≤ 65535; omega, k1, fun x hx => hl.ok x (k2 x hx), hpair⟩
  obtain ⟨i1, i2, i3, i4⟩ := sendGo_spec (h := h) (ps := ps) (t := t) pcs [] (by simpa using hright)
  simp only [List.nil_append, List.length_nil, Nat.add_zero] at i1 i2 i3 i4
  have hlen : (ps ++ tagP pcs).length = ps.length + pcs.length := by rw [List.length_append, tag_len]
  have hF : ∀ i, i < ps.length → partN h (ps ++ tagP pcs) i = partN h ps i := fun i hi => partN_old hi
  have hdec : decD (ps ++ tagP pcs) = (sent ++ [l], []) := by
    unfold decD
    rw [List.foldl_append]
    unfold decD at hd
    rw [hd, tag_dec _ _ _ hsome, hflat]; rfl
  refine ⟨_, rfl, ⟨⟨by rw [hlen]; have := s.win.le; omega, s.win.rise, fun x hx => ?_⟩, ?_, fun i hi => ?_, fun i hi => ?_, by rw [hlen]; omega, rise_app s.rise i2 fun x hx y hy => ?_, fun x hx => ?_, fun i hi => ?_⟩, hdec, i4, fun x hx => ?_⟩
  · obtain ⟨i, h1, h2, h3, h4⟩ := s.win.mem x hx
    exact ⟨i, by rw [hF i h3]; exact h1, h2, by rw [hlen]; omega, h4⟩
  · rw [List.take_append_of_le_length s.win.le]
    exact s.dec
  · rw [hlen] at hi
    by_cases h1 : i < ps.length
    · rw [List.take_append_of_le_length (by omega), getD_app_left _ h1]
      exact s.good i h1
    · obtain ⟨j, rfl⟩ : ∃ j, i = ps.length + j := ⟨i - ps.length, by omega⟩
      have hj : j < pcs.length := by omega
      rw [List.take_length_add_append, getD_app_right, tag_get _ _ hj]
      have : decD (ps ++ (tagP pcs).take j) = (sent, (pcs.take j).flatten) := by
        unfold decD
        rw [List.foldl_append]
        unfold decD at hd
        rw [hd, tag_rest _ _ _ _ hj]; rfl
      rw [this]
      have k := flat_take_le pcs j hj
      rw [hflat] at k
      have := hl.len
      show (pcs.take j).flatten.length + (pcs.getD j []).length ≤ 48
      omega
  · rw [hlen] at hi
    by_cases h1 : i < ps.length
    · rw [hF i h1]; exact s.right i h1
    · obtain ⟨j, rfl⟩ : ∃ j, i = ps.length + j := ⟨i - ps.length, by omega⟩
      exact hright j (by omega)
  · obtain ⟨i, h1, h2, _⟩ := s.kept x hx
    obtain ⟨j, _, h3, h4⟩ := i1 y hy
    rw [h2, h4]
    show (i : Int) < ((ps.length + j : Nat) : Int)
    omega
  · rcases List.mem_append.1 hx with hx | hx
    · obtain ⟨i, h1, h2, h3⟩ := s.kept x hx
      exact ⟨i, by rw [hlen]; omega, h2, by rw [hF i h1]; exact h3⟩
    · obtain ⟨j, _, h3, h4⟩ := i1 x hx
      exact ⟨ps.length + j, by rw [hlen]; omega, by rw [h4], by rw [h4]⟩
  · rw [hlen] at hi
    by_cases h1 : i < ps.length
    · rcases s.cover i h1 with ⟨x, hx, hx2⟩ | h2 | h2
      · exact .inl ⟨x, List.mem_append_left _ hx, hx2⟩
      · exact .inr (.inl h2)
      · exact .inr (.inr (by rw [hF i h1]; exact h2))
    · obtain ⟨j, rfl⟩ : ∃ j, i = ps.length + j := ⟨i - ps.length, by omega⟩
      obtain ⟨x, hx, hx2⟩ := i3 j (Nat.zero_le _) (by omega)
      exact .inl ⟨x, List.mem_append_right _ hx, hx2⟩
  · obtain ⟨j, _, _, h4⟩ := i1 x hx
    rw [h4]
    exact ⟨rfl, rfl⟩
def Says (m : Nat) (A : List DPart) (a : DAck) : Prop := ∀ i : Nat, hasA a (i : Int) = true → i < m ∨ ∃ x ∈ A, x.2.2.1 = (i : Int)
theorem says_recv {F : Nat → DPart} (hF : ∀ i, (F i).2.2.1 = (i : Int)) {N m : Nat} {A : List DPart} (hw : WinOK F N m A) {i : Nat} (h : i < m ∨ ∃ x ∈ A, x.2.2.1 = (i : Int)) : Recv F m A i := by
  rcases h with h | ⟨x, hx, hx2⟩
  · exact .inl h
  · obtain ⟨j, hj, _⟩ := hw.mem x hx
    have h1 := hF j
    rw [← hj, hx2] at h1
    have : i = j := by omega
    subst this
    exact .inr (by rw [← hj]; exact hx)
theorem recv_says {F : Nat → DPart} (hF : ∀ i, (F i).2.2.1 = (i : Int)) {m : Nat} {A : List DPart} {i : Nat} (h : Recv F m A i) : i < m ∨ ∃ x ∈ A, x.2.2.1 = (i : Int) := h.imp id fun h => ⟨_, h, hF i⟩
theorem Says.mono {F : Nat → DPart} (hF : ∀ i, (F i).2.2.1 = (i : Int)) {N m m' : Nat} {A A' : List DPart} (hw : WinOK F N m A) (hm : ∀ i, Recv F m A i → Recv F m' A' i) {a : DAck} (h : Says m A a) : Says m' A' a := fun i hi => recv_says hF (hm i (says_recv hF hw (h i hi)))
theorem sess_ack {h : DHello} {ps : DPs} {S : List DKept} {m : Nat} {A : List DPart} {g : List DItem} {got : List (List DItem)} (s : Sess h ps S m A g got) {a : DAck} (ha : Says m A a) : Sess h ps (leftF S a) m A g got := by
  refine ⟨s.win, s.dec, s.good, s.right, s.most, s.rise.sublist List.filter_sublist, fun x hx => s.kept x ((List.mem_filter.1 hx).1), fun i hi => ?_⟩
  rcases s.cover i hi with ⟨x, hx, hx2⟩ | h2
  · cases hh : hasA a x.1 with
    | true => rw [hx2] at hh; exact .inr (says_recv (partN_seq h ps) s.win (ha i hh))
    | false =>
      refine .inl ⟨x, ?_, hx2⟩
      unfold leftF
      exact List.mem_filter.2 ⟨hx, by rw [hh]; rfl⟩
  · exact .inr h2
theorem next_near {h : DHello} {ps : DPs} {S : List DKept} {m : Nat} {A : List DPart} {g : List DItem} {got : List (List DItem)} (s : Sess h ps S m A g got) {q : Nat} (hq : q ≤ ps.length) (hall : ∀ i, i < q → Recv (partN h ps) m A i) : q ≤ m := by
  by_cases h1 : q ≤ m
  · exact h1
  · exact absurd (hall m (by omega)) (recv_next (partN_seq h ps) s.win)
theorem sess_end {h : DHello} {ps : DPs} {m : Nat} {A : List DPart} {g : List DItem} {got sent : List (List DItem)} (s : Sess h ps [] m A g got) (hd : decD ps = (sent, [])) : m = ps.length ∧ A = [] ∧ g = [] ∧ got = sent := by
  have h1 := next_near s (Nat.le_refl _) fun i hi => (s.cover i hi).resolve_left fun ⟨x, hx, _⟩ => by cases hx
  have h2 := s.win.le
  have hm : m = ps.length := by omega
  have hA : A = [] := by
    cases hA : A with
    | nil => rfl
    | cons x l =>
      obtain ⟨i, _, h3, h4, _⟩ := s.win.mem x (by rw [hA]; simp)
      omega
  have hdec := s.dec
  rw [hm, List.take_length, hd] at hdec
  simp only [Prod.mk.injEq] at hdec
  exact ⟨hm, hA, hdec.2.symm, hdec.1.symm⟩
end Go.Ev
/- A variable kept beside the evaluator, cell by cell; taken back as a box; a new block taken as a box. -/
set_option linter.unusedVariables false
set_option linter.unusedSimpArgs false
namespace Go.Ev
open Go.Conc
section
variable {P : Program} {C : Ctx} {b : Frame} {Q : Exit → Act → World → Prop} {a : Act} {w : World} {ops : Array Oper} {l : List Nat} {R0 : Ref} {K : Nat → Prop} {W : Nat → Option Obj} {n : Nat} {sl : List (Nat × Value)} {s : St} {D : List Deferred}
theorem Kd.adopt {k bx p : Nat} {v : Value} {B : Box} {av : AV} (h : Kd R0 K W n sl s a w D) (hk : K k) (hv : blkOf v = some k) (hb : lk bx s.boxes = none) (hS : ∀ j o, R0.S0 j o → j < R0.w0.heap.size)
    (hrel : ∀ M : Mem, M.w = w → M.bs = s.boxes → (∀ t, RelV M (s.look t) (a.tmps.getD t undef)) → (∀ o, ¬ M.S k o) → ∀ R' : Ref, R'.new k → RelB R' w M.S v B)
    (hav : ∀ M' : Mem, lk bx M'.bs = some (true, B) → M'.β bx = v → RelV M' av (a.tmps.getD p undef)) :
    Kd R0 (fun j => K j ∧ j ≠ k) W n sl (St.put { s with boxes := st' bx (true, B) s.boxes } p av) a w D := by
  obtain ⟨R, h1, h2, ⟨M, hM, hbs, I, hr⟩, h4⟩ := h.st
  have I0 := h4 M I
  subst hM
  have noS : ∀ j o, K j → ¬ M.S j o := by
    intro j o hj hs
    obtain ⟨g1, g2⟩ := I.here j o hs
    obtain ⟨q1, q2, q3⟩ := h1 j hj
    rcases g1 with g1 | g1 | g1
    · exact q3 o g1
    · omega
    · exact q2 g1
  have notK : ∀ c d B', lk c M.bs = some (d, B') → ∀ j, blkOf (M.β c) = some j → ¬ K j := by
    intro c d B' hc j hj hjK
    have hn := (I.boxes c d B' hc).new j hj
    obtain ⟨q1, q2, _⟩ := h1 j hjK
    rcases hn with hn | hn
    · omega
    · exact q2 hn
  have ref : ∀ {R1 R2 : Ref} {v : Value} {B : Box} {W : World} {S : Stab}, (∀ blk, R1.new blk → blkOf v = some blk → R2.new blk) → RelB R1 W S v B → RelB R2 W S v B := by
    intro R1 R2 v B W S hn hB
    cases B with
    | var g x =>
      obtain ⟨blk, cs, e, k1, k2, k3, k4, k5⟩ := hB
      exact ⟨blk, cs, e, k1, k2, k3, k4, hn blk k5 (by rw [k1]; rfl)⟩
    | row e g xs fz =>
      obtain ⟨cs, k1, k2, k3, k4, k5, k6⟩ := hB
      exact ⟨cs, k1, k2, k3, k4, k5, fun blk hb => ⟨hn blk (k6 blk hb).1 hb, (k6 blk hb).2⟩⟩
    | iter y pos =>
      obtain ⟨blk, k1, k2, k3, k4, k5⟩ := hB
      exact ⟨blk, k1, k2, k3, k4, hn blk k5 (by rw [k1]; rfl)⟩
  have hkn : R0.new k := .inl (h.new k hk)
  have hlt : ∀ j, K j → j < M.w.heap.size := fun j hj => Nat.lt_of_lt_of_le (h1 j hj).1 I.size
  let R' : Ref := ⟨M.w, fun j => R0.new j ∧ ¬ (K j ∧ j ≠ k), M.S, R0.tab.keeps I0.old⟩
  let M' : Mem := { w := M.w, S := M.S, β := fun c => if c = bx then v else M.β c, bs := st' bx (true, B) M.bs }
  have hbM : lk bx M.bs = none := by rw [hbs]; exact hb
  have hB' : RelB R' M.w M.S v B := hrel M rfl hbs hr (fun o => noS k o hk) R' (.inr ⟨hkn, fun h => h.2 rfl⟩)
  have st : Step M M' (fun _ => False) := ⟨Keeps.refl _ _, fun c d Bc hc _ => by
    have hne : c ≠ bx := fun e => by rw [e, hbM] at hc; cases hc
    exact ⟨d, Bc, by show lk c (st' bx (true, B) M.bs) = _; rw [lk_st]; simp [hne, hc], by show (if c = bx then v else M.β c) = _; simp [hne], Box.le_refl Bc⟩⟩
  refine ⟨fun j hj => h.new j hj.1, h.size, h.defers, h.slots, R', fun j hj => ⟨hlt j hj.1, fun g => g.2 hj, fun o => noS j o hj.1⟩, fun j hj => ?_, ⟨M', rfl, ?_, ⟨rfl, rfl, rfl, Nat.le_refl _, fun _ _ _ => rfl, Keeps.refl _ _, fun j o hs => ⟨.inl hs, (I.here j o hs).2⟩, fun c d Bc hc => ?_, fun c1 c2 d1 B1 d2 B2 hne hc1 hc2 j => ?_⟩, fun t => ?_⟩, fun M2 I2 => ?_⟩
  · show M.w.heap[j]? = W j
    rw [I.frame j (h1 j hj.1).1 (h1 j hj.1).2.1]
    exact h2 j hj.1
  · show st' bx (true, B) M.bs = st' bx (true, B) s.boxes
    rw [hbs]
  · have hc' : lk c (st' bx (true, B) M.bs) = some (d, Bc) := hc
    rw [lk_st] at hc'
    show RelB R' M.w M.S (if c = bx then v else M.β c) Bc
    by_cases hcb : c = bx
    · subst hcb
      simp only [if_true, Option.some.injEq, Prod.mk.injEq] at hc' ⊢
      obtain ⟨_, rfl⟩ := hc'
      exact hB'
    · simp only [hcb, if_false] at hc' ⊢
      exact ref (fun blk hn hbv => .inr ⟨hn, fun hh => notK c d Bc hc' blk hbv hh.1⟩) (I0.boxes c d Bc hc')
  · have hc1' : lk c1 (st' bx (true, B) M.bs) = some (d1, B1) := hc1
    have hc2' : lk c2 (st' bx (true, B) M.bs) = some (d2, B2) := hc2
    rw [lk_st] at hc1' hc2'
    show blkOf (if c1 = bx then v else M.β c1) = some j → blkOf (if c2 = bx then v else M.β c2) ≠ some j
    by_cases e1 : c1 = bx
    · have e2 : c2 ≠ bx := fun e => hne (e1.trans e.symm)
      simp only [e1, e2, if_true, if_false] at hc2' ⊢
      intro q1 q2
      rw [hv] at q1
      simp only [Option.some.injEq] at q1
      subst q1
      exact notK c2 d2 B2 hc2' k q2 hk
    · simp only [e1, if_false] at hc1' ⊢
      by_cases e2 : c2 = bx
      · simp only [e2, if_true]
        intro q1 q2
        rw [hv] at q2
        simp only [Option.some.injEq] at q2
        subst q2
        exact notK c1 d1 B1 hc1' k q1 hk
      · simp only [e2, if_false] at hc2' ⊢
        exact I.sep c1 c2 d1 B1 d2 B2 hne hc1' hc2' j
  · rw [look_put]
    split
    · rename_i e
      rw [e]
      exact hav M' (by show lk bx (st' bx (true, B) M.bs) = _; rw [lk_st]; simp) (by show (if bx = bx then v else _) = v; simp)
    · exact (hr t).step st (fun _ hb => hb.elim)
  · refine ⟨I2.os.trans I0.os, I2.tape.trans I0.tape, I2.output.trans I0.output, Nat.le_trans I0.size I2.size, ?_, I0.old.trans I2.old, ?_, ?_, I2.sep⟩
    · intro j g1 g2
      have hno : ¬ (R0.new j ∧ ¬ (K j ∧ j ≠ k)) := by
        rintro ⟨h3 | h3, _⟩
        · omega
        · exact g2 h3
      exact (I2.frame j (Nat.lt_of_lt_of_le g1 I0.size) hno).trans (I0.frame j g1 g2)
    · intro c o hs
      obtain ⟨g1, g2⟩ := I2.here c o hs
      refine ⟨?_, g2⟩
      rcases g1 with g1 | g1 | g1
      · exact (I0.here c o g1).1
      · exact .inr (.inl (Nat.le_trans I0.size g1))
      · exact .inr g1.1
    · intro c d Bc hc
      refine ref (fun blk hn _ => ?_) (I2.boxes c d Bc hc)
      rcases hn with g1 | g1
      · exact .inl (Nat.le_trans I0.size g1)
      · exact g1.1
theorem Kd.freeze {t c e : Nat} {d fz : Bool} {g : GTy} {xs : List (den g)} (h : Kd R0 K W n sl s a w D) (hl : s.look t = .tip c) (hb : lk c s.boxes = some (d, .row e g xs fz)) :
    Kd R0 K W n sl (St.put { s with boxes := st' c (true, .row e g xs true) s.boxes } t (.val (.sl g) xs)) a w D := by
  obtain ⟨R, h1, h2, ⟨M, hM, hbs, I, hr⟩, h4⟩ := h.st
  obtain ⟨S', I', st, henc⟩ := I.freeze (b := c) (by rw [hbs]; exact hb)
  refine ⟨h.new, h.size, h.defers, h.slots, R, h1, h2, ⟨{ M with S := S', bs := st' c (true, .row e g xs true) M.bs }, hM, by show st' c (true, Box.row e g xs true) M.bs = st' c (true, Box.row e g xs true) s.boxes; rw [hbs], I', fun u => ?_⟩, h4⟩
  rw [look_put]
  split
  · rename_i e2
    rw [e2]
    have := hr t
    rw [hl] at this
    simp only [RelV] at this
    refine ⟨[M.β c], henc, ?_⟩
    rw [this.2]
    rfl
  · exact (hr u).step st (fun _ hb => hb.elim)
theorem Kd.tip_slice {t c e : Nat} {d fz : Bool} {g : GTy} {xs : List (den g)} (h : Kd R0 K W n sl s a w D) (hl : s.look t = .tip c) (hb : lk c s.boxes = some (d, .row e g xs fz)) : ∃ ad m cap, a.tmps.getD t undef = .slice ad m cap := by
  obtain ⟨R, h1, h2, ⟨M, hM, hbs, I, hr⟩, h4⟩ := h.st
  have h5 := hr t
  rw [hl] at h5
  simp only [RelV] at h5
  obtain ⟨cs, h6, _⟩ := I.boxes c d _ (by rw [hbs]; exact hb)
  rw [h5.2]
  rcases h6.2 with ⟨h7, _⟩ | ⟨blk, cap, cur, h7, _⟩
  · exact ⟨_, _, _, h7⟩
  · exact ⟨_, _, _, h7⟩
theorem Kd.copy {d t : Nat} {v : Value} (h : Kd R0 K W n sl s a w D) (hv : a.tmps.getD t undef = v) (hd : d < n) (hsl : ∀ p ∈ sl, p.1 ≠ d) : Kd R0 K W n sl (s.put d (s.look t)) (a.put (some d) v) w D := by
  obtain ⟨R, h1, h2, ⟨M, hM, hbs, I, hr⟩, h4⟩ := h.st
  have hd' : d < a.tmps.size := by rw [h.size]; exact hd
  refine ⟨h.new, (put_size _ _ _).trans h.size, (put_defers' _ _ _).trans h.defers, fun p hp => (put_same hd' (hsl p hp)).trans (h.slots p hp), R, h1, h2, ⟨M, hM, hbs, I, fun u => ?_⟩, h4⟩
  rw [put_getD a (some d) v u (fun k hk => by cases hk; exact hd'), look_put]
  by_cases e : u = d
  · subst e
    simp only [if_true]
    rw [← hv]
    exact hr t
  · rw [if_neg e, if_neg (fun e2 => e (by cases e2; rfl))]
    exact hr u
theorem Kd.hold {t : Nat} (h : Kd R0 K W n sl s a w D) : Kd R0 K W n ((t, a.tmps.getD t undef) :: sl) s a w D :=
  ⟨h.new, h.size, h.defers, fun p hp => by
    rcases List.mem_cons.1 hp with rfl | hp
    · rfl
    · exact h.slots p hp, h.st⟩
abbrev Kv (R0 : Ref) (k : Nat) (cs : Array Value) (e n : Nat) (sl : List (Nat × Value)) (s : St) (a : Act) (w : World) (D : List Deferred := []) : Prop := Kd R0 (fun j => j = k) (fun _ => some (.cells cs e (0, 0))) n sl s a w D
variable {k : Nat} {cs : Array Value} {e : Nat}
theorem Kv.at (h : Kv R0 k cs e n sl s a w D) : w.heap[k]? = some (.cells cs e (0, 0)) := Kd.heap h rfl
theorem Kd.kalloc {T d i : Nat} {o : Oper} {z : Value} {cs : Array Value} (h : Kd R0 (fun _ => False) W n sl s a w D) (ho : ops[i]? = some o) (hg : o.guard = none) (hop : o.op = .alloc T) (hdst : o.dst = some d) (hz : ∀ w, (zeroValue T).run P w = .ok z w) (hcs : z.cells = cs)
    (hl : s.look d = .undef) (hd : d < n) (hsl : ∀ p ∈ sl, p.1 ≠ d)
    (hnext : ∀ k a' w', Kv R0 k cs T n ((d, .pointer (some ⟨k, 0, none⟩)) :: sl) s a' w' D → RegTo P b ops l Q a' w') : RegTo P b ops (i :: l) Q a w := by
  refine RegTo.value ho hg (v := .pointer (some ⟨w.heap.size, 0, none⟩)) (w' := w.alloc (.cells cs T)) ?_ ?_
  · unfold execOp
    rw [hop]
    simp [Instr.alloc, hz, newVar, newRow, hcs]
  · have hn := heap_alloc_new w (.cells cs T)
    have hgr := h.old.grow
    have h2 := h.world (K' := fun j => j = w.heap.size) (W' := fun _ => some (.cells cs T (0, 0))) (w' := w.alloc (.cells cs T)) (fun k hk => .inr (by omega)) (fun k hk => by rw [hk]; exact (Array.getElem?_eq_some_iff.1 hn).1) (fun j hj => by rw [hj]; exact hn) rfl rfl rfl (by simp) (fun k hk _ => RowKit.Below.heap_alloc _ _ _ hk)
    rw [hdst]
    exact hnext w.heap.size _ _ (h2.keep hl hd hsl)
theorem Kv.load {τ : Tys} {T off i d : Nat} {o : Oper} {x : Operand} {ti : TInfo} {v : Value} (h : Kv R0 k cs e n sl s a w D) (TK : TyOK P τ T ti) (ha : isAgg ti.g = false) (ho : ops[i]? = some o) (hg : o.guard = none) (hop : o.op = .load T x) (hdst : o.dst = some d) (hx : a.eval x = .pointer (some ⟨k, off, none⟩)) (hc : cs[off]? = some v)
    (hnext : RegTo P b ops l Q (a.put (some d) v) w) : RegTo P b ops (i :: l) Q a w := by
  have hcell : w.cell? ⟨k, off, none⟩ = some v := by rw [cell_of_row w k off cs e (0, 0) h.at]; exact hc
  refine RegTo.value ho hg (v := v) (w' := w) ?_ (by rw [hdst]; exact hnext)
  have hl : (loadVar T ⟨k, off, none⟩).run P w = .ok v w := by
    unfold loadVar
    simp only [Sem.run_bind, run_isAgg' TK, Result.andThen_ok, ha]
    simp [run_load, hcell]
  unfold execOp
  rw [hop]
  simp only [hx]
  exact maybe_run (by simpa [Instr.loadAt, Instr.sureAddr] using hl)
theorem Kv.store {τ : Tys} {T off i : Nat} {o : Oper} {x y : Operand} {ti : TInfo} {v : Value} (h : Kv R0 k cs e n sl s a w D) (TK : TyOK P τ T ti) (h1 : ncell ti.g = 1) (ho : ops[i]? = some o) (hg : o.guard = none) (hop : o.op = .store T x y) (hx : a.eval x = .pointer (some ⟨k, off, none⟩)) (hy : a.eval y = v) (hv : v.cells = #[v]) (hone : v.oneCell' = true) (hoff : off < cs.size) (hdst : o.dst = none)
    (hnext : ∀ w', Kv R0 k (cs.set! off v) e n sl s a w' D → RegTo P b ops l Q a w') : RegTo P b ops (i :: l) Q a w := by
  have hat := h.at
  have hst := run_storeCells_at P k off e [v] 0 cs w hat (by simp; omega) (fun u hu => by rw [List.mem_singleton.1 hu]; exact hone)
  simp only [Nat.add_zero, List.length_singleton] at hst
  have hcells : (cs.toList.take off ++ [v] ++ cs.toList.drop (off + 1)).toArray = cs.set! off v := by
    apply Array.toList_inj.1
    simp only [Array.set!_eq_setIfInBounds, Array.toList_setIfInBounds]
    rw [List.set_eq_take_append_cons_drop, if_pos (by simpa using hoff)]
    simp
  rw [hcells] at hst
  have hrun : (Instr.storeAt T (.pointer (some ⟨k, off, none⟩)) v).run P w = .ok () (w.setRow k (cs.set! off v)) := by
    obtain ⟨tt, hi, hsz, _⟩ := TK.info
    have : (storeVar T ⟨k, off, none⟩ v).run P w = .ok () (w.setRow k (cs.set! off v)) := by
      unfold storeVar
      simp only [Sem.run_bind, run_sizeOf' hi, Result.andThen_ok, hsz, h1, hv]
      simpa using hst
    simpa [Instr.storeAt, Instr.sureAddr] using this
  refine RegTo.yields ho hg (K := fun u w' => u = undef ∧ w' = w.setRow k (cs.set! off v)) ?_ (fun u w' hu => ?_)
  · unfold Yields
    have : (execOp a.eval o).run P w = .ok .skip (w.setRow k (cs.set! off v)) := by
      unfold execOp
      rw [hop]
      simp [hx, hy, hrun]
    rw [this]
    exact ⟨rfl, rfl⟩
  · rw [hu.2, hdst]
    have hlt : k < w.heap.size := (Array.getElem?_eq_some_iff.1 hat).1
    refine hnext _ (h.world (fun j hj => .inl hj) (fun j hj => by rw [hj, setRow_size]; exact hlt) (fun j hj => ?_) rfl rfl rfl (by rw [setRow_size]; exact Nat.le_refl _) (fun j hj hne => setRow_other _ _ _ _ hne))
    rw [hj]
    exact setRow_heap _ _ _ _ _ _ hat
theorem relB_ref {R1 R2 : Ref} {v : Value} {B : Box} {W : World} {S : Stab} (hn : ∀ blk, R1.new blk → blkOf v = some blk → R2.new blk) (hB : RelB R1 W S v B) : RelB R2 W S v B := by
  cases B with
  | var g x =>
    obtain ⟨blk, cs, e, k1, k2, k3, k4, k5⟩ := hB
    exact ⟨blk, cs, e, k1, k2, k3, k4, hn blk k5 (by rw [k1]; rfl)⟩
  | row e g xs fz =>
    obtain ⟨cs, k1, k2, k3, k4, k5, k6⟩ := hB
    exact ⟨cs, k1, k2, k3, k4, k5, fun blk hb => ⟨hn blk (k6 blk hb).1 hb, (k6 blk hb).2⟩⟩
  | iter y pos =>
    obtain ⟨blk, k1, k2, k3, k4, k5⟩ := hB
    exact ⟨blk, k1, k2, k3, k4, hn blk k5 (by rw [k1]; rfl)⟩
theorem Kd.release {L : LoopSpec} {s' : St} {p bx : Nat} {d : Bool} {g : GTy} {x : den g} (h : Kd R0 (fun _ => False) W n sl s a w D) (hown : ∀ k, ¬ R0.own k) (hl : s.look p = .ptr bx g []) (hb : lk bx s.boxes = some (d, .var g x)) (hr' : restrict L s = some s') (hnb : lk bx s'.boxes = none) :
    ∃ k cs e, Kv R0 k cs e n ((p, .pointer (some ⟨k, 0, none⟩)) :: sl) s' a w D ∧ ∃ S, Enc w S g x cs.toList := by
  obtain ⟨R, h1, h2, ⟨M, hM, hbs, I, hr⟩, h4⟩ := h.st
  have H := restrict_spec hr'
  subst hM
  have I0 := h4 M I
  have hbM : lk bx M.bs = some (d, .var g x) := by rw [hbs]; exact hb
  obtain ⟨blk, cs, e, hv, hheap, henc, hno, hnew⟩ := I.boxes bx d _ hbM
  have hβ : blkOf (M.β bx) = some blk := by rw [hv]; rfl
  have hnew0 : R0.w0.heap.size ≤ blk := ((I0.boxes bx d _ hbM).new blk hβ).resolve_right (hown blk)
  have hslot : a.tmps.getD p undef = .pointer (some ⟨blk, 0, none⟩) := by
    have := hr p
    rw [hl] at this
    simp only [RelV] at this
    obtain ⟨blk', d', B', _, _, q3, q4⟩ := this
    rw [hβ] at q3
    have e1 := Option.some.inj q3
    subst e1
    rw [q4]
    simp [offs]
  have I1 := I.weak (H.weak hbs)
  have hne : ∀ c d' B', lk c s'.boxes = some (d', B') → blkOf (M.β c) ≠ some blk := fun c d' B' hc => by
    have hcb : c ≠ bx := fun e => by rw [e, hnb] at hc; cases hc
    obtain ⟨_, _, d2, h5⟩ := H.box c d' B' hc
    rw [← hbs] at h5
    exact fun hh => I.sep c bx d2 B' d _ hcb h5 hbM blk hh hβ
  have hlt : blk < M.w.heap.size := (Array.getElem?_eq_some_iff.1 hheap).1
  let R' : Ref := ⟨M.w, fun j => R0.new j ∧ j ≠ blk, M.S, R0.tab.keeps I0.old⟩
  refine ⟨blk, cs, e, ⟨fun j hj => by rw [hj]; exact hnew0, h.size, h.defers, fun q hq => ?_, R', fun j hj => by rw [hj]; exact ⟨hlt, fun g => g.2 rfl, hno⟩, fun j hj => by rw [hj]; exact hheap,
    ⟨{ M with bs := s'.boxes }, rfl, rfl, ⟨rfl, rfl, rfl, Nat.le_refl _, fun _ _ _ => rfl, Keeps.refl _ _, fun j o hs => ⟨.inl hs, (I.here j o hs).2⟩, fun c dc Bc hc => ?_, I1.sep⟩, H.rel hbs hr⟩, fun M2 I2 => ?_⟩, M.S, henc⟩
  · rcases List.mem_cons.1 hq with rfl | hq
    · exact hslot
    · exact h.slots q hq
  · exact relB_ref (fun j hn hbv => .inr ⟨hn, fun e => hne c dc Bc hc (by rw [← e]; exact hbv)⟩) ((h4 _ I1).boxes c dc Bc hc)
  · refine ⟨I2.os.trans I0.os, I2.tape.trans I0.tape, I2.output.trans I0.output, Nat.le_trans I0.size I2.size, ?_, I0.old.trans I2.old, ?_, ?_, I2.sep⟩
    · intro j g1 g2
      have hno' : ¬ (R0.new j ∧ j ≠ blk) := by
        rintro ⟨h3 | h3, _⟩
        · omega
        · exact g2 h3
      exact (I2.frame j (Nat.lt_of_lt_of_le g1 I0.size) hno').trans (I0.frame j g1 g2)
    · intro c o hs
      obtain ⟨g1, g2⟩ := I2.here c o hs
      refine ⟨?_, g2⟩
      rcases g1 with g1 | g1 | g1
      · exact (I0.here c o g1).1
      · exact .inr (.inl (Nat.le_trans I0.size g1))
      · exact .inr g1.1
    · intro c dc Bc hc
      refine relB_ref (fun j hn _ => ?_) (I2.boxes c dc Bc hc)
      rcases hn with g1 | g1
      · exact .inl (Nat.le_trans I0.size g1)
      · exact g1.1
theorem field_run {τ : Tys} (TOK : TysOK P τ) {T off k kk : Nat} {ti : TInfo} {g : GTy} (hi : τ T = some ti) (hok : fieldOK ti kk = true) (hp : pathTy ti.g (fieldPath ti.nf kk) = some g) (w : World) :
    (Instr.fieldAt T (.pointer (some ⟨k, off, none⟩)) kk).run P w = .ok (.pointer (some ⟨k, off + offs ti.g (fieldPath ti.nf kk), none⟩)) w := by
  obtain ⟨h1, h2⟩ := fieldOK_spec hok
  obtain ⟨fs, f, j, q1, q2, q3, q4, q5, q6, q7⟩ := structField (TOK _ _ hi) hp h1 h2
  simp only [Instr.fieldAt, Sem.run_bind, run_underlying q1, Result.andThen_ok, q2, Instr.sureAddr, Sem.run_pure, fieldPlace_run TOK q5 q7]
  rw [q3]
theorem RegTo.field {τ : Tys} (TOK : TysOK P τ) {T off i d kk k : Nat} {o : Oper} {x : Operand} {ti : TInfo} {g : GTy} (hi : τ T = some ti) (hok : fieldOK ti kk = true) (hp : pathTy ti.g (fieldPath ti.nf kk) = some g) (ho : ops[i]? = some o) (hg : o.guard = none) (hop : o.op = .fieldAddr T x kk) (hdst : o.dst = some d) (hx : a.eval x = .pointer (some ⟨k, off, none⟩))
    (hnext : RegTo P b ops l Q (a.put (some d) (.pointer (some ⟨k, off + offs ti.g (fieldPath ti.nf kk), none⟩))) w) : RegTo P b ops (i :: l) Q a w := by
  refine RegTo.value ho hg (v := .pointer (some ⟨k, off + offs ti.g (fieldPath ti.nf kk), none⟩)) (w' := w) ?_ (by rw [hdst]; exact hnext)
  unfold execOp
  rw [hop]
  simp only [hx]
  exact maybe_run (field_run TOK hi hok hp w)
end
theorem ctr_of_own {P : Program} {C : Ctx} (TOK : TysOK P C.τ) {f : Nat} {k : Ctr} (hf : (P.funcs[f]?).isSome = true) (hname : ((fnOf P f).name == "runtime.NumGoroutine") = false) (hbody : (fnOf P f).body.isSome = true) (hn : ∀ x, (resL k.args x).length ≤ (fnOf P f).ntmps)
    (h : ∀ (R0 : Ref) (b : Frame) (x : dens k.args) (a : Act), (∀ k, ¬ R0.own k) → b.kind ≠ .early → wtD k.args x → (∀ p, k.pre = some p → p x) → IsSt R0 { tmps := number 0 (resL k.args x), boxes := [] } a R0.w0 → a.tmps.size = (fnOf P f).ntmps → a.defers = [] →
      LTo P b (seqs (bodyOf (fnOf P f))) (finQ C (fnOf P f) k.res R0 (k.fn x)) a R0.w0) : CtrOK P f k := by
  refine ⟨⟨_, fnOf_eq hf, by rw [bodyOf_eq hbody]; rfl, hname⟩, fun w S us x hS hT henc hpre => ?_⟩
  have h0 := start_st (n := (fnOf P f).ntmps) hS hT henc
  have hlen := (resL_rel (M := ⟨w, S, fun _ => undef, []⟩) henc).length
  have hx := hn x
  refine calls_of_to (fnOf_eq hf) (bodyOf_eq hbody) ?_
  refine CodeTo.mono (CodeTo.seqs (h ⟨w, fun _ => False, S, hT⟩ _ x _ (fun _ h => h) (fun e => by cases e) henc.wt hpre h0 (by simp; omega) rfl)) ?_
  rintro e a' w' ⟨he, hd, s', h1, h2⟩
  exact ⟨he, hd, finish_st TOK h1 h2⟩
theorem seqs_loops {x : Nat × Code} {c : Code} : ∀ {c0 : Code}, c ∈ seqs c0 → x ∈ loopsOf c → x ∈ loopsOf c0
  | .seq a b, h, hx => by
    rcases List.mem_append.1 h with h | h
    · exact List.mem_append_left _ (seqs_loops h hx)
    · exact List.mem_append_right _ (seqs_loops h hx)
  | .skip, h, hx | .region .., h, hx | .cond .., h, hx | .block .., h, hx | .loop _, h, hx | .rangeFunc .., h, hx | .exit _, h, hx | .scope _, h, hx | .label _, h, hx | .goto _, h, hx | .ret, h, hx | .refuse _, h, hx => by
    have := List.mem_singleton.1 h
    rw [this] at hx
    exact hx
theorem rNth_loops {x : Nat × Code} {c0 : Code} {i : Nat} (hx : x ∈ loopsOf (rNth c0 i)) : x ∈ loopsOf c0 := by
  unfold rNth at hx
  rw [List.getD_eq_getElem?_getD] at hx
  cases h : (seqs c0)[i]? with
  | none => rw [h] at hx; cases hx
  | some c => rw [h] at hx; exact seqs_loops (List.mem_of_getElem? h) hx
def wrL (n : Nat) (cs : List Code) : Bool := cs.all fun x => (writes x).all fun t => Nat.blt t n
section
variable {P : Program} {b : Frame} {Q : Exit → Act → World → Prop} {a : Act} {w : World} {R0 : Ref} {K : Nat → Prop} {W : Nat → Option Obj} {n : Nat} {sl : List (Nat × Value)} {s : St} {D : List Deferred}
theorem Kd.pieceL {τ : Tys} {G : List (Nat × Ctr)} {Λ : List (Nat × LoopSpec)} {c0 : Code} (TOK : TysOK P τ) (GC : CtrsOK P (fun f => lk f G)) (hmix : P.follows .mixedOrders = true) (hnd : nodupN ((loopsOf c0).map (·.1)) = true) (hloops : ∀ p ∈ Λ, LoopOK (mkC τ G Λ) p.2 (loopB p.1 c0))
    {fn : Func} {res : List GTy} {ts : List (Nat × Sh)} {bs : List (Nat × BSh)} {rest cs : List Code} {F : Option (dens res) × Option (ShT ts × ShB bs) → Prop} (h : Kd R0 K W n sl s a w D) (hin : ∀ x ∈ cs, ∃ i, x = rNth c0 i) (hwr : wrL n cs = true) (hfar : farL (sl.map (·.1)) cs = true) (hG : (pieceT (mkC τ G Λ) fn res ts bs cs s).holds F)
    (hret : ∀ y s' a' w', F (some y, none) → IsSt R0 s' a' w' → a'.defers = D → (evRes (mkC τ G Λ) fn res (.normal, s')).holds (fun z => z = y) → Q .ret a' w')
    (hgo : ∀ x a' w', F (none, some x) → Kd R0 K W n sl (mkS ts bs x) a' w' D → LTo P b rest Q a' w')
    (hbad : ¬ F (none, none)) : LTo P b (cs ++ rest) Q a w := by
  obtain ⟨R, h1, h2, h3, h4⟩ := h.st
  have hsz : ∀ x ∈ cs, ∀ t ∈ writes x, t < n := fun x hx t ht => by
    unfold wrL at hwr
    rw [List.all_eq_true] at hwr
    have h5 := hwr x hx
    rw [List.all_eq_true] at h5
    simpa [Nat.blt_eq] using h5 t ht
  refine piece_to (C := mkC τ G Λ) (DK := dsOK_nil rfl) TOK GC hmix (fun x hx => lam_of x fun id body hm L hL => ?_) (fun x hx t ht => by rw [h.size]; exact hsz x hx t ht) h3 hG ?_ ?_ hbad
  · obtain ⟨i, rfl⟩ := hin x hx
    have hk := lk_mem hnd (rNth_loops hm)
    have := lk_all (Q := fun id L => LoopOK (mkC τ G Λ) L (loopB id c0)) hloops hL
    unfold loopB at this
    rw [hk] at this
    exact this
  · rintro y s' a' w' k1 ⟨M, hM, hb, I, hr⟩ k3 k4
    exact hret y s' a' w' k1 ⟨M, hM, hb, h4 M I, hr⟩ (k3.trans h.defers) k4
  · intro x a' w' k1 k2 k3 k4 k5
    exact hgo x a' w' k1 ⟨h.new, k3.trans h.size, k4.trans h.defers, fun p hp => (k5 p.1 (farL_out hfar (List.mem_map_of_mem hp))).trans (h.slots p hp), R, h1, h2, k2, h4⟩
end
end Go.Ev
/- Pieces of messages, and lists put together: loops, in plain Lean. -/
set_option linter.unusedVariables false
set_option linter.unusedSimpArgs false
namespace Go.Ev
def cutG (k : Nat) : Nat → List DItem → List (List DItem) × List DItem
  | 0, l => ([], l)
  | f + 1, l => bif decide (l.length > k) then (l.take k :: (cutG k f (l.drop k)).1, (cutG k f (l.drop k)).2) else ([], l)
theorem cut_fuel {k : Nat} (hk : 0 < k) : ∀ (f f' : Nat) (l : List DItem), l.length ≤ f → l.length ≤ f' → cutG k f l = cutG k f' l
  | 0, 0, _, _, _ => rfl
  | 0, f' + 1, l, h, _ => by rw [cutG, cutG, decide_eq_false (by omega)]; rfl
  | f + 1, 0, l, _, h => by rw [cutG, cutG, decide_eq_false (by omega)]; rfl
  | f + 1, f' + 1, l, h, h' => by
    rw [cutG, cutG]
    cases hd : decide (l.length > k) with
    | false => rfl
    | true =>
      have := of_decide_eq_true hd
      rw [cut_fuel hk f f' (l.drop k) (by rw [List.length_drop]; omega) (by rw [List.length_drop]; omega)]
theorem cut_pieces (k : Nat) : ∀ (f : Nat) (l : List DItem), piecesF k f l = (cutG k f l).1 ++ [(cutG k f l).2]
  | 0, l => rfl
  | f + 1, l => by
    rw [piecesF, cutG]
    cases decide (l.length > k) with
    | false => rfl
    | true => rw [cond_true, cond_true, cut_pieces k f (l.drop k)]; rfl
theorem cut_step {k : Nat} (hk : 0 < k) {l : List DItem} (h : l.length > k) : cutG k l.length l = (l.take k :: (cutG k (l.drop k).length (l.drop k)).1, (cutG k (l.drop k).length (l.drop k)).2) := by
  match hl : l.length, h with
  | 0, h => omega
  | f + 1, _ =>
    rw [cutG, decide_eq_true (by omega), cond_true, cut_fuel hk f (l.drop k).length (l.drop k) (by rw [List.length_drop]; omega) (Nat.le_refl _)]
theorem cut_end {k : Nat} {l : List DItem} (h : ¬ l.length > k) : cutG k l.length l = ([], l) := by
  cases hl : l.length with
  | zero => rfl
  | succ f => rw [cutG, decide_eq_false h]; rfl
abbrev PcS := (List DItem × Int × Unit) × (List (List DItem) × Unit)
def pcPre (x : PcS) : Prop := x.1.2.1 = 6 ∧ x.1.1.length + x.2.1.length ≤ 100000
abbrev CcS := (Int × List (List DItem) × Int × Int × Unit) × Unit
def ccPre (x : CcS) : Prop := 0 ≤ x.1.2.2.2.1 ∧ x.1.2.2.2.1 ≤ x.1.2.2.1 ∧ x.1.2.2.1 = x.1.2.1.length ∧ x.1.2.2.1 ≤ 100000 ∧ 0 ≤ x.1.1 ∧ x.1.1 + (x.1.2.1.drop x.1.2.2.2.1.toNat).flatten.length ≤ 100000
abbrev CdS := (List (List DItem) × Int × Int × Unit) × (List DItem × Unit)
def cdPre (x : CdS) : Prop := 0 ≤ x.1.2.2.1 ∧ x.1.2.2.1 ≤ x.1.2.1 ∧ x.1.2.1 = x.1.1.length ∧ x.1.2.1 ≤ 100000 ∧ x.2.1.length + (x.1.1.drop x.1.2.2.1.toNat).flatten.length ≤ 100000
end Go.Ev
/- Functions that defer a closure which recovers. -/
set_option linter.unusedVariables false
set_option linter.unusedSimpArgs false
namespace Go.Ev
open Go.Conc
def runOpsC (C : Ctx) : List Oper → St → Tree St
  | [], s => .leaf s
  | o :: l, s => match opEff C.τ C.Γ (o.dst.getD 0) o (s.args o) with
    | none => .stuck
    | some e => match e.wr.all (fun x => !x.2.1) with
      | true => .needO e.need (runOpsC C l (s.after o e))
      | false => .stuck
section
variable {P : Program} {C : Ctx} {R : Ref}
theorem runOpsC_wp (TOK : TysOK P C.τ) (GOK : CtrsOK P C.Γ) {ops : Array Oper} {Q : Exit → Act → World → Prop} {M0 : Mem} : ∀ (l : List Oper) (k : Nat) (s : St) (a : Act) (M : Mem) (F : St → Prop), (∀ i o, l[i]? = some o → ops[k + i]? = some o) →
    (∀ o ∈ l, o.guard = none ∧ ∀ d, o.dst = some d → d < a.tmps.size) → M.bs = s.boxes → InvM R M → (∀ t, RelV M (s.look t) (a.tmps.getD t undef)) → Step M0 M (fun _ => False) → (runOpsC C l s).holds F →
    (∀ s' a' M', F s' → M'.bs = s'.boxes → InvM R M' → (∀ t, RelV M' (s'.look t) (a'.tmps.getD t undef)) → Step M0 M' (fun _ => False) → a'.defers = a.defers → Q .normal a' M'.w) → wpOps P ops Q (List.range' k l.length) a M.w
  | [], k, s, a, M, F, _, _, hb, I, hr, hst, hF, hQ => by
    simp only [List.length_nil, List.range'_zero, wpOps]
    exact hQ s a M hF hb I hr hst rfl
  | o :: l, k, s, a, M, F, hops, hl, hb, I, hr, hst, hF, hQ => by
    have ho : ops[k]? = some o := by simpa using hops 0 o (by simp)
    simp only [List.length_cons, List.range'_succ, wpOps, ho]
    obtain ⟨hg, hd⟩ := hl o (by simp)
    rw [if_pos (by simp [Region.wanted, hg])]
    refine .inl ?_
    simp only [runOpsC] at hF
    split at hF
    · exact hF.elim
    · rename_i e he
      split at hF
      · rename_i hall
        obtain ⟨hn, hF⟩ := holds_needO.1 hF
        rw [args_eq s o hb] at he
        have hy := opEff_sound TOK GOK I (eval_func a) (opRel_of (R.tab.keeps I.old) hr o) he hn
        refine hy.wp (fun v w' hv => ?_)
        have hv' := hv
        obtain ⟨S', β', I', st, hrv⟩ := hv
        have hk : ∀ b, ¬ killed e.wr b := fun b hkb => by
          obtain ⟨B, hB⟩ := hkb
          rw [List.all_eq_true] at hall
          have := hall _ hB
          simp at this
        have hst' := (hst.trans st).mono (K' := fun _ => False) (fun b hb => hb.elim id (hk b))
        refine runOpsC_wp TOK GOK l (k + 1) (s.after o e) (a.put o.dst v) ⟨w', S', β', applyB e.wr M.bs⟩ F (fun i o' hi => by have := hops (i + 1) o' (by simpa using hi); rwa [show k + 1 + i = k + (i + 1) by omega]) (fun o' ho' => ⟨(hl o' (by simp [ho'])).1, fun d hd' => by rw [put_size]; exact (hl o' (by simp [ho'])).2 d hd'⟩)
          (by rw [boxes_after, ← hb]) I' (fun t => ?_) hst' hF (fun s' a' M' f1 f2 f3 f4 f5 f6 => hQ s' a' M' f1 f2 f3 f4 f5 (f6.trans (put_defers' _ _ _)))
        rw [look_after, put_getD a o.dst v t hd]
        split
        · exact hrv
        · rcases wrs_look e.wr s t with h1 | ⟨h1, h2⟩
          · rw [h1]; simp [RelV]
          · rw [h1]
            exact (hr t).step st (fun b hkb => absurd hkb (hk b))
      · exact hF.elim
theorem defer_wp {o : Oper} {x : Operand} {f : Nat} {caps : Array Value} {a : Act} {w : World} {next : Act → World → Prop} {Q : Exit → Act → World → Prop} (hop : o.op = .defer { callee := .value x, args := #[], argTypes := #[] }) (hx : a.eval x = .func (.func f) #[] caps)
    (h : next ({ a with defers := { target := .fn (.func f) caps, args := #[] } :: a.defers }.put o.dst undef) w) : o.wp P a w next Q := by
  unfold Oper.wp
  have hrun : (execOp a.eval o).run P w = .ok (.defer { target := .fn (.func f) caps, args := #[] }) w := by
    simp only [execOp, hop, resolve, hx, Deferred.ofValue, Sem.run_bind]
    simp
  rw [hrun]
  exact h
def endT (C : Ctx) (ts : List (Nat × Sh)) (bs : List (Nat × BSh)) (l : List Code) (s : St) : Tree (Ex × Option (ShT ts × ShB bs)) :=
  (evL C l s).bind fun p => match restrict { prom := [], keep := ts.map (·.1), boxes := bs.map (·.1), sum := fun _ => .stuck } p.2 with
    | none => .stuck
    | some s' => .leaf (p.1, unS ts bs s')
theorem end_to {b : Frame} {Q : Exit → Act → World → Prop} {a : Act} {w : World} (TOK : TysOK P C.τ) (GC : CtrsOK P C.Γ) (hmix : P.follows .mixedOrders = true) (DK : DsOK P C) {ts : List (Nat × Sh)} {bs : List (Nat × BSh)} {rest l : List Code} {s : St} {G : Ex × Option (ShT ts × ShB bs) → Prop} (hl : ∀ c ∈ l, LamOK C c) (hsz : ∀ c ∈ l, ∀ t ∈ writes c, t < a.tmps.size) (hs : IsSt R s a w) (hG : (endT C ts bs l s).holds G)
    (hend : ∀ z x a' w', G (z, some x) → IsSt R (mkS ts bs x) a' w' → a'.tmps.size = a.tmps.size → a'.defers = a.defers → (∀ t, (∀ c ∈ l, t ∉ writes c) → a'.tmps.getD t undef = a.tmps.getD t undef) → match z with
      | .normal => LTo P b rest Q a' w'
      | z => Q z.to a' w') (hbad : ∀ z, ¬ G (z, none)) : LTo P b (l ++ rest) Q a w := by
  refine evL_toD TOK GC hmix DK l s a w hl hsz hs (holds_bind.1 hG) ?_
  intro z s' a' w' hF h1 h2 h3 h4
  simp only at hF
  split at hF
  · exact hF.elim
  · rename_i s'' hr
    have h5 := h1.restr (restrict_spec hr)
    simp only [Tree.holds] at hF
    cases hu : unS ts bs s'' with
    | none => rw [hu] at hF; exact absurd hF (hbad z)
    | some x =>
      rw [hu] at hF
      have := unS_eq hu
      subst this
      exact hend z x a' w' hF h5 h2 h3 h4
theorem calls_of_to_defers {f : FuncId} {fn : Func} {c : Code} {args : Array Value} {w : World} {R : Ending → World → Prop} (hf : P.funcs[f]? = some fn) (hb : fn.body = some c)
    (h : CodeTo P { (default : Frame) with fn := f, kind := .normal } c (bodyPostD P fn R) { tmps := args ++ Array.replicate (fn.ntmps - args.size) undef, defers := [] } w) : Calls P f args w R := by
  intro cs
  let b : Frame := { (default : Frame) with fn := f, kind := .normal }
  have henter : Frame.enter P f args .normal = b.at { tmps := args ++ Array.replicate (fn.ntmps - args.size) undef, defers := [] } [.code c] := by
    simp [Frame.enter, Frame.at, hf, hb, b]
  obtain ⟨e, a', w', hq, harr⟩ := h [] cs
  rw [← henter] at harr
  cases e with
  | normal =>
    obtain ⟨e', w'', fr', hR, hs, hfn, hl⟩ := leaves_steps a'.defers .returning w' { b.at a' [] with mode := .returning } cs rfl rfl rfl hf rfl hq
    exact ⟨e', w'', fr', hR, Comes.of_steps (Steps.trans harr (.one step_end)) hs, hfn, hl⟩
  | ret =>
    obtain ⟨todo, hs₀⟩ := harr
    obtain ⟨e', w'', fr', hR, hs, hfn, hl⟩ := leaves_steps a'.defers .returning w' { b.at a' todo with mode := .returning } cs rfl rfl rfl hf rfl hq
    exact ⟨e', w'', fr', hR, Comes.of_steps hs₀ hs, hfn, hl⟩
  | panic chain =>
    obtain ⟨todo, hs₀⟩ := harr
    obtain ⟨e', w'', fr', hR, hs, hfn, hl⟩ := leaves_steps a'.defers (.panicking chain) w' { b.at a' todo with mode := .panicking chain } cs rfl rfl rfl hf rfl hq
    exact ⟨e', w'', fr', hR, Comes.of_steps hs₀ hs, hfn, hl⟩
  | exit id => exact hq.elim
  | goto l => exact hq.elim
  | outgrown => exact ⟨.outgrown, w', b, hq, harr.resolve_left (by simp [b]), rfl, trivial⟩
theorem ctr_of_toD (TOK : TysOK P C.τ) {f : Nat} {k : Ctr} (hf : (P.funcs[f]?).isSome = true) (hname : ((fnOf P f).name == "runtime.NumGoroutine") = false) (hbody : (fnOf P f).body.isSome = true) (hn : ∀ x, (resL k.args x).length ≤ (fnOf P f).ntmps)
    (h : ∀ (R0 : Ref) (b : Frame) (x : dens k.args) (a : Act) (Rp : Ending → World → Prop), (∀ s' a' w', IsSt R0 s' a' w' → (evRes C (fnOf P f) k.res (.normal, s')).holds (fun z => z = k.fn x) → Leaves P (fnOf P f) a'.tmps Rp [] .returning w') → wtD k.args x → (∀ p, k.pre = some p → p x) →
      IsSt R0 { tmps := number 0 (resL k.args x), boxes := [] } a R0.w0 → a.tmps.size = (fnOf P f).ntmps → a.defers = [] → LTo P b (seqs (bodyOf (fnOf P f))) (bodyPostD P (fnOf P f) Rp) a R0.w0) : CtrOK P f k := by
  refine ⟨⟨_, fnOf_eq hf, by rw [bodyOf_eq hbody]; rfl, hname⟩, fun w S us x hS hT henc hpre => ?_⟩
  have h0 := start_st (n := (fnOf P f).ntmps) hS hT henc
  have hlen := (resL_rel (M := ⟨w, S, fun _ => undef, []⟩) henc).length
  have hx := hn x
  refine calls_of_to_defers (fnOf_eq hf) (bodyOf_eq hbody) ?_
  refine CodeTo.seqs (h ⟨w, fun _ => False, S, hT⟩ _ x _ _ (fun s' a' w' h1 h2 => ?_) henc.wt hpre h0 (by simp; omega) rfl)
  exact finish_st TOK h1 h2
/-! recover -/
section
variable {ops : Array Oper} {Q : Exit → Act → List Frame → World → Prop} {i : Nat} {rest : List Nat} {a : Act} {cs cs' : List Frame} {w w' : World} {o : Oper} {v : Value}
theorem opsS_recover (ho : ops[i]? = some o) (hg : o.guard = none) (hop : o.op = .call { callee := .builtin .recover, args := #[], argTypes := #[] }) (hrec : recoverD cs = some (v, cs')) (h : wpOpsS P ops Q rest (a.put o.dst v) cs' w) : wpOpsS P ops Q (i :: rest) a cs w := by
  have hrun : (execOp a.eval o).run P w = .ok .recover w := by
    unfold execOp
    rw [hop]
    rfl
  simp only [wpOpsS, ho]
  rw [if_pos (by simp [Region.wanted, hg])]
  rw [hrun]
  simp only [hrec]
  exact h
theorem opsS_idle (ho : ops[i]? = some o) (hg : o.guard = none) (hop : o.op = .call { callee := .builtin .recover, args := #[], argTypes := #[] }) (hrec : recoverD cs = none) (h : wpOpsS P ops Q rest (a.put o.dst .nilIface) cs w) : wpOpsS P ops Q (i :: rest) a cs w := by
  have hrun : (execOp a.eval o).run P w = .ok .recover w := by
    unfold execOp
    rw [hop]
    rfl
  simp only [wpOpsS, ho]
  rw [if_pos (by simp [Region.wanted, hg])]
  rw [hrun]
  simp only [hrec]
  exact h
theorem opsS_value (ho : ops[i]? = some o) (hg : o.guard = none) (hrun : (execOp a.eval o).run P w = .ok (.value v) w') (h : wpOpsS P ops Q rest (a.put o.dst v) cs w') : wpOpsS P ops Q (i :: rest) a cs w := by
  simp only [wpOpsS, ho]
  rw [if_pos (by simp [Region.wanted, hg])]
  rw [hrun]
  exact h
end
end
theorem farO_all {n : Nat} {ds : List Nat} {l : List Oper} (h : farO n ds l = true) : ∀ o ∈ l, o.guard = none ∧ ∀ d, o.dst = some d → d < n := fun o ho => by
  unfold farO at h
  rw [List.all_eq_true] at h
  have h1 := h o ho
  rw [Bool.and_eq_true] at h1
  refine ⟨by simpa using h1.1, fun d hd => ?_⟩
  have h2 := h1.2
  rw [hd] at h2
  simp only [Bool.and_eq_true, Nat.blt_eq] at h2
  exact h2.1
theorem invoke_fn {P : Program} {f : Nat} {fn : Func} {caps : Array Value} (hf : P.funcs[f]? = some fn) (hb : fn.body.isNone = false) (hn : (fn.name == "runtime.NumGoroutine") = false) (w : World) : (invoke (.fn (.func f) caps) #[]).run P w = .ok (.enter f caps) w := by
  have h2' : ¬ fn.body = none := by intro hh; rw [hh] at hb; simp at hb
  have h3' : ¬ fn.name = "runtime.NumGoroutine" := by simpa using hn
  simp [invoke, callFunc, hf, h2', h3']
end Go.Ev
/- More of what is kept beside the evaluator: scopes, regions in any order, nil slices made rows, pieces that end in any way. -/
set_option linter.unusedVariables false
set_option linter.unusedSimpArgs false
namespace Go.Ev
open Go.Conc
section
variable {P : Program} {C : Ctx} {b : Frame} {Q : Exit → Act → World → Prop} {a : Act} {w : World} {ops : Array Oper} {l : List Nat} {R0 : Ref} {K : Nat → Prop} {W : Nat → Option Obj} {n : Nat} {sl : List (Nat × Value)} {s : St} {D : List Deferred}
theorem CodeTo.scope {c : Code} (hg : ∀ l a w, ¬ Q (.goto l) a w) (h : CodeTo P b c Q a w) : CodeTo P b (.scope c) Q a w := by
  intro k cs
  obtain ⟨e, a1, w1, hq, harr⟩ := h (.inScope c :: k) cs
  cases e with
  | normal => exact ⟨.normal, a1, w1, hq, .head step_scope (Steps.trans harr (.one step_inScope))⟩
  | exit id => exact ⟨.exit id, a1, w1, hq, fun k' hk => .head step_scope (harr k' (by simp [exitTo, hk]))⟩
  | goto l => exact absurd hq (hg l a1 w1)
  | ret => exact ⟨_, a1, w1, hq, .of_steps (.one step_scope) harr⟩
  | panic ch => exact ⟨_, a1, w1, hq, .of_steps (.one step_scope) harr⟩
  | outgrown => exact ⟨_, a1, w1, hq, .of_steps (b := b) (k := k) (cs := cs) (e := .outgrown) (.one step_scope) harr⟩
theorem Kd.opw (TOK : TysOK P C.τ) (GOK : CtrsOK P C.Γ) {o : Oper} {e : Eff} {next : Act → World → Prop} (h : Kd R0 K W n sl s a w D) (he : opEff C.τ C.Γ (o.dst.getD 0) o (s.args o) = some e) (hn : e.ok) (hk : ∀ k, o.dst = some k → k < n ∧ ∀ p ∈ sl, p.1 ≠ k)
    (hnext : ∀ a' w', Kd R0 K W n sl (s.after o e) a' w' D → next a' w') : o.wp P a w next Q := by
  obtain ⟨R, h1, h2, h3, h4⟩ := h.st
  refine op_wp TOK GOK h3 he hn (fun k hk' => by rw [h.size]; exact (hk k hk').1) fun a' w' h5 h6 => hnext a' w' ⟨h.new, h6.size.trans h.size, h6.defers.trans h.defers, fun p hp => (h6.tmps p.1 (fun hd => (hk p.1 hd).2 p hp rfl)).trans (h.slots p hp), R, h1, h2, h5, h4⟩
theorem op_value {o : Oper} {v : Value} {w' : World} {next : Act → World → Prop} (hr : (execOp a.eval o).run P w = .ok (.value v) w') (h : next (a.put o.dst v) w') : o.wp P a w next Q := by
  unfold Oper.wp
  rw [hr]
  exact h
theorem op_skip {o : Oper} {w' : World} {next : Act → World → Prop} (hr : (execOp a.eval o).run P w = .ok .skip w') (h : next (a.put o.dst undef) w') : o.wp P a w next Q := by
  unfold Oper.wp
  rw [hr]
  exact h
theorem any_inv {A : Array Oper} (Φ : Array Bool → Act → World → Prop) (hstep : ∀ listed a w i o, listed.size = A.size → Φ listed a w → i ∈ Region.ready .any A listed → A[i]? = some o → o.guard = none ∧ o.wp P a w (fun a' w' => Φ (listed.setIfInBounds i true) a' w') Q)
    (hdone : ∀ listed a w, listed.size = A.size → Φ listed a w → Region.ready .any A listed = [] → Q .normal a w) : ∀ (fuel : Nat) (listed : Array Bool) (a : Act) (w : World), listed.size = A.size → Φ listed a w → (List.range A.size).countP (fun j => !listed.getD j false) ≤ fuel → wpAny P .any A Q fuel listed a w := by
  intro fuel
  induction fuel with
  | zero =>
    intro listed a w hs H hc
    have hr : Region.ready .any A listed = [] := by
      cases hr : Region.ready .any A listed with
      | nil => rfl
      | cons i l =>
        have hm : i ∈ Region.ready .any A listed := by rw [hr]; simp
        obtain ⟨h1, o, ho, _⟩ := mem_ready.1 hm
        have hlt := (Array.getElem?_eq_some_iff.1 ho).1
        have h0 : (List.range A.size).countP (fun j => !listed.getD j false) = 0 := by omega
        rw [List.countP_eq_zero] at h0
        have := h0 i (List.mem_range.2 hlt)
        have hj' : i < listed.size := by omega
        simp [hj'] at h1 this
        rw [this] at h1
        cases h1
    exact ⟨hr, hdone listed a w hs H hr⟩
  | succ fuel ih =>
    intro listed a w hs H hc
    refine ⟨fun hr => hdone listed a w hs H hr, fun i hir => ?_⟩
    obtain ⟨h1, o, ho, hedge⟩ := mem_ready.1 hir
    have hlt : i < A.size := (Array.getElem?_eq_some_iff.1 ho).1
    have hlt' : i < listed.size := by omega
    obtain ⟨hg, hwp⟩ := hstep listed a w i o hs H hir ho
    have hcnt : (List.range A.size).countP (fun j => !(listed.setIfInBounds i true).getD j false) < (List.range A.size).countP (fun j => !listed.getD j false) := by
      refine countP_lt (fun j _ hj => ?_) ⟨i, List.mem_range.2 hlt, by simp [hlt'] at h1 ⊢; exact h1, by simp [hlt']⟩
      by_cases hij : i = j
      · subst hij
        simp [hlt'] at hj
      · have : (listed.setIfInBounds i true).getD j false = listed.getD j false := by
          simp [Array.getD_eq_getD_getElem?, Array.getElem?_setIfInBounds_ne hij]
        rw [this] at hj
        exact hj
    unfold wpOp
    rw [ho]
    simp only
    rw [if_pos (by simp [Region.wanted, hg])]
    exact .inl (Oper.wp_mono (fun a' w' H' => ih _ a' w' (by simpa using hs) H' (by omega)) hwp)
theorem region_any {id : Nat} {A : Array Oper} (hmix : P.follows .mixedOrders = true) (Φ : Array Bool → Act → World → Prop) (h0 : Φ (Array.replicate A.size false) a w.drew) (hstep : ∀ listed a w i o, listed.size = A.size → Φ listed a w → i ∈ Region.ready .any A listed → A[i]? = some o → o.guard = none ∧ o.wp P a w (fun a' w' => Φ (listed.setIfInBounds i true) a' w') Q)
    (hdone : ∀ listed a w, listed.size = A.size → Φ listed a w → Region.ready .any A listed = [] → Q .normal a w) : (Code.region id A true).wp P Q a w := by
  refine wp_region_any hmix ?_
  rw [drew_eq]
  exact any_inv Φ hstep hdone A.size _ a w.drew (by simp) h0 (Nat.le_trans List.countP_le_length (by simp))
theorem Kd.drew (h : Kd R0 K W n sl s a w D) : Kd R0 K W n sl s a w.drew D := by
  obtain ⟨R, h1, h2, h3, h4⟩ := h.st
  refine h.world (fun k hk => .inl hk) (fun k hk => Nat.lt_of_lt_of_le (h1 k hk).1 h3.grow) (fun k hk => h.heap hk) rfl rfl rfl (Nat.le_refl _) (fun k _ _ => rfl)
theorem Kd.promote {l : List (Nat × Nat × Nat × GTy)} {s' : St} (h : Kd R0 K W n sl s a w D) (hp : Ev.promote s l = some s') : Kd R0 K W n sl s' a w D := by
  obtain ⟨R, h1, h2, h3, h4⟩ := h.st
  exact ⟨h.new, h.size, h.defers, h.slots, R, h1, h2, (promote_sound hp h3).1, h4⟩
theorem Kd.rows {l : List (Nat × Nat × Nat × GTy)} {L : LoopSpec} {s' : St} (h : Kd R0 K W n sl s a w D) (hp : ((Ev.promote s l).bind fun s0 => restrict L s0) = some s') : Kd R0 K W n sl s' a w D := by
  cases hq : Ev.promote s l with
  | none => rw [hq] at hp; cases hp
  | some s0 =>
    rw [hq] at hp
    exact (h.promote hq).restr hp
theorem Kd.same {d t : Nat} (h : Kd R0 K W n sl s a w D) (hv : a.tmps.getD d undef = a.tmps.getD t undef) : Kd R0 K W n sl (s.put d (s.look t)) a w D := by
  obtain ⟨R, h1, h2, ⟨M, hM, hbs, I, hr⟩, h4⟩ := h.st
  refine ⟨h.new, h.size, h.defers, h.slots, R, h1, h2, ⟨M, hM, hbs, I, fun u => ?_⟩, h4⟩
  rw [look_put]
  by_cases e : u = d
  · subst e
    simp only [if_true]
    rw [hv]
    exact hr t
  · rw [if_neg e]
    exact hr u
variable {k : Nat} {cs : Array Value} {e : Nat}
theorem Kv.storeAll {τ : Tys} {T i : Nat} {o : Oper} {x y : Operand} {ti : TInfo} {v : Value} {vs : Array Value} (h : Kv R0 k cs e n sl s a w D) (TK : TyOK P τ T ti) (h1 : ncell ti.g = vs.size) (hvs : vs.size = cs.size) (ho : ops[i]? = some o) (hg : o.guard = none) (hop : o.op = .store T x y) (hx : a.eval x = .pointer (some ⟨k, 0, none⟩)) (hy : a.eval y = v) (hv : v.cells = vs) (hone : ∀ u ∈ vs.toList, u.oneCell' = true) (hdst : o.dst = none)
    (hnext : ∀ w', Kv R0 k vs e n sl s a w' D → RegTo P b ops l Q a w') : RegTo P b ops (i :: l) Q a w := by
  have hat := h.at
  have hst := run_storeCells_at P k 0 e vs.toList 0 cs w hat (by simp; omega) hone
  simp only [Nat.add_zero, Nat.zero_add, List.take_zero, List.nil_append] at hst
  have hcells : (vs.toList ++ cs.toList.drop vs.toList.length).toArray = vs := by
    rw [List.drop_eq_nil_of_le (by simp; omega), List.append_nil]
  rw [hcells] at hst
  have hrun : (Instr.storeAt T (.pointer (some ⟨k, 0, none⟩)) v).run P w = .ok () (w.setRow k vs) := by
    obtain ⟨tt, hi, hsz, _⟩ := TK.info
    have : (storeVar T ⟨k, 0, none⟩ v).run P w = .ok () (w.setRow k vs) := by
      unfold storeVar
      simp only [Sem.run_bind, run_sizeOf' hi, Result.andThen_ok, hsz, h1, hv, ne_eq, not_true_eq_false, if_false]
      exact hst
    simpa [Instr.storeAt, Instr.sureAddr] using this
  refine RegTo.yields ho hg (K := fun u w' => u = undef ∧ w' = w.setRow k vs) ?_ (fun u w' hu => ?_)
  · unfold Yields
    have : (execOp a.eval o).run P w = .ok .skip (w.setRow k vs) := by
      unfold execOp
      rw [hop]
      simp [hx, hy, hrun]
    rw [this]
    exact ⟨rfl, rfl⟩
  · rw [hu.2, hdst]
    have hlt : k < w.heap.size := (Array.getElem?_eq_some_iff.1 hat).1
    refine hnext _ (h.world (fun j hj => .inl hj) (fun j hj => by rw [hj, setRow_size]; exact hlt) (fun j hj => ?_) rfl rfl rfl (by rw [setRow_size]; exact Nat.le_refl _) (fun j hj hne => setRow_other _ _ _ _ hne))
    rw [hj]
    exact setRow_heap _ _ _ _ _ _ hat
theorem Kv.load_run {τ : Tys} {T off : Nat} {o : Oper} {x : Operand} {ti : TInfo} {v : Value} (h : Kv R0 k cs e n sl s a w D) (TK : TyOK P τ T ti) (ha : isAgg ti.g = false) (hop : o.op = .load T x) (hx : a.eval x = .pointer (some ⟨k, off, none⟩)) (hc : cs[off]? = some v) : (execOp a.eval o).run P w = .ok (.value v) w := by
  have hcell : w.cell? ⟨k, off, none⟩ = some v := by rw [cell_of_row w k off cs e (0, 0) h.at]; exact hc
  have hl : (loadVar T ⟨k, off, none⟩).run P w = .ok v w := by
    unfold loadVar
    simp only [Sem.run_bind, run_isAgg' TK, Result.andThen_ok, ha]
    simp [run_load, hcell]
  unfold execOp
  rw [hop]
  simp only [hx]
  exact maybe_run (by simpa [Instr.loadAt, Instr.sureAddr] using hl)
theorem field_op_run {τ : Tys} (TOK : TysOK P τ) {T off kk : Nat} {o : Oper} {x : Operand} {ti : TInfo} {g : GTy} (hi : τ T = some ti) (hok : fieldOK ti kk = true) (hp : pathTy ti.g (fieldPath ti.nf kk) = some g) (hop : o.op = .fieldAddr T x kk) (hx : a.eval x = .pointer (some ⟨k, off, none⟩)) :
    (execOp a.eval o).run P w = .ok (.value (.pointer (some ⟨k, off + offs ti.g (fieldPath ti.nf kk), none⟩))) w := by
  unfold execOp
  rw [hop]
  simp only [hx]
  exact maybe_run (field_run TOK hi hok hp w)
theorem Kv.store_run {τ : Tys} {T off : Nat} {o : Oper} {x y : Operand} {ti : TInfo} {v : Value} (h : Kv R0 k cs e n sl s a w D) (TK : TyOK P τ T ti) (h1 : ncell ti.g = 1) (hop : o.op = .store T x y) (hx : a.eval x = .pointer (some ⟨k, off, none⟩)) (hy : a.eval y = v) (hv : v.cells = #[v]) (hone : v.oneCell' = true) (hoff : off < cs.size) :
    (execOp a.eval o).run P w = .ok .skip (w.setRow k (cs.set! off v)) ∧ Kv R0 k (cs.set! off v) e n sl s a (w.setRow k (cs.set! off v)) D := by
  have hat := h.at
  have hst := run_storeCells_at P k off e [v] 0 cs w hat (by simp; omega) (fun u hu => by rw [List.mem_singleton.1 hu]; exact hone)
  simp only [Nat.add_zero, List.length_singleton] at hst
  have hcells : (cs.toList.take off ++ [v] ++ cs.toList.drop (off + 1)).toArray = cs.set! off v := by
    apply Array.toList_inj.1
    simp only [Array.set!_eq_setIfInBounds, Array.toList_setIfInBounds]
    rw [List.set_eq_take_append_cons_drop, if_pos (by simpa using hoff)]
    simp
  rw [hcells] at hst
  have hrun : (Instr.storeAt T (.pointer (some ⟨k, off, none⟩)) v).run P w = .ok () (w.setRow k (cs.set! off v)) := by
    obtain ⟨tt, hi, hsz, _⟩ := TK.info
    have : (storeVar T ⟨k, off, none⟩ v).run P w = .ok () (w.setRow k (cs.set! off v)) := by
      unfold storeVar
      simp only [Sem.run_bind, run_sizeOf' hi, Result.andThen_ok, hsz, h1, hv]
      simpa using hst
    simpa [Instr.storeAt, Instr.sureAddr] using this
  refine ⟨by unfold execOp; rw [hop]; simp [hx, hy, hrun], ?_⟩
  have hlt : k < w.heap.size := (Array.getElem?_eq_some_iff.1 hat).1
  refine h.world (fun j hj => .inl hj) (fun j hj => by rw [hj, setRow_size]; exact hlt) (fun j hj => ?_) rfl rfl rfl (by rw [setRow_size]; exact Nat.le_refl _) (fun j hj hne => setRow_other _ _ _ _ hne)
  rw [hj]
  exact setRow_heap _ _ _ _ _ _ hat
theorem Kd.ends (TOK : TysOK P C.τ) (GC : CtrsOK P C.Γ) (hmix : P.follows .mixedOrders = true) (DK : DsOK P C) {ts : List (Nat × Sh)} {bs : List (Nat × BSh)} {rest cs : List Code} {G : Ex × Option (ShT ts × ShB bs) → Prop} (h : Kd R0 K W n sl s a w D) (hcalm : calmL n n cs = true) (hfar : farL (sl.map (·.1)) cs = true) (hG : (endT C ts bs cs s).holds G)
    (hend : ∀ z x a' w', G (z, some x) → Kd R0 K W n sl (mkS ts bs x) a' w' D → match z with
      | .normal => LTo P b rest Q a' w'
      | z => Q z.to a' w') (hbad : ∀ z, ¬ G (z, none)) : LTo P b (cs ++ rest) Q a w := by
  obtain ⟨R, h1, h2, h3, h4⟩ := h.st
  have hsz := calmL_wr hcalm
  refine end_to TOK GC hmix DK (calmL_lam hcalm) (fun x hx t ht => by rw [h.size]; exact (hsz x hx t ht).1) h3 hG ?_ hbad
  intro z x a' w' k1 k2 k3 k4 k5
  exact hend z x a' w' k1 ⟨h.new, k3.trans h.size, k4.trans h.defers, fun p hp => (k5 p.1 (farL_out hfar (List.mem_map_of_mem hp))).trans (h.slots p hp), R, h1, h2, k2, h4⟩
end
end Go.Ev
/- The functions of 'alive' keep their contracts. -/
set_option linter.unusedVariables false
set_option linter.unusedSimpArgs false
namespace Go.Ev.Z
open Go.Proofs Go.Conc
def dueC : Ctr := { args := [gPort], res := [.bool], pre := none, fn := fun (x : DPort) => dueF x }
def dueG : List (Nat × Ctr) := []
theorem due_tree : (fun x : DPort => evFn (mkC tys dueG []) (fnOf Tryz.prog 69) (resL dueC.args x) dueC.res) = (fun x => Tree.leaf (bif x.1 != (0 : Int) then decide (x.2.2.2.2.1 ≤ (1 : Int)) else false)) := by kernel_rfl
theorem due_ok : CtrOK Tryz.prog 69 dueC :=
  fun_ok (G := dueG) (Λ := []) tysOK ctrs_nil mixed (by kernel_rfl) (by kernel_rfl) (by kernel_rfl) (by kernel_rfl) lp_nil fun (x : DPort) hw _ => by
    rw [congrFun due_tree x]
    exact holds_val (d := dueC.fn x) (by kernel_rfl) (by simp [Tree.safe])
def heardC : Ctr := { args := [gPort], res := [gPort], pre := none, fn := fun (x : DPort) => heardF x }
def heardG : List (Nat × Ctr) := []
theorem heard_tree : (fun x : DPort => evFn (mkC tys heardG []) (fnOf Tryz.prog 33) (resL heardC.args x) heardC.res) = (fun x => Tree.leaf (x.1, x.2.1, x.2.2.1, (0 : Int), x.2.2.2.2)) := by kernel_rfl
theorem heard_ok : CtrOK Tryz.prog 33 heardC :=
  fun_ok (G := heardG) (Λ := []) tysOK ctrs_nil mixed (by kernel_rfl) (by kernel_rfl) (by kernel_rfl) (by kernel_rfl) lp_nil fun (x : DPort) hw _ => by
    rw [congrFun heard_tree x]
    exact holds_val (d := heardC.fn x) (by kernel_rfl) (by simp [Tree.safe])
def tickG : List (Nat × Ctr) := [(69, dueC)]
theorem tickG_ok : CtrsOK Tryz.prog (fun f => lk f tickG) := (ctrs_cons due_ok ctrs_nil)
def tickC : Ctr := { args := [gPort, gRules], res := [gPort, .bool, .bool], pre := none, fn := fun (x : DPort × DRules) => tickF x.1 x.2 }
noncomputable def tickB (i : Nat) : Code := (seqs (bodyOf (fnOf Tryz.prog 40))).getD i .skip
noncomputable def tickX (i : Nat) : Code := (seqs (thenOf (tickB 8))).getD i .skip
theorem tickA_tree : (fun x : DPort × DRules => pieceT (mkC tys tickG []) (fnOf Tryz.prog 40) [gPort, .bool, .bool] tkS tkM [tickB 0, tickB 1, tickB 2, tickB 3, tickB 4, tickB 5] { tmps := number 0 (resL [gPort, gRules] x), boxes := [] }) = (fun x => Tree.br (x.1.1 == (0 : Int)) (Tree.leaf (some (x.1, false, false), none)) (Tree.leaf (none, some ((dueF x.1, ()), bif dueF x.1 then (x.1.1, x.1.2.1, x.1.2.2.1, x.1.2.2.2.1, if x.2.1 < (1 : Int) then (1 : Int) else x.2.1, x.1.2.2.2.2.2) else (x.1.1, x.1.2.1, x.1.2.2.1, x.1.2.2.2.1, IntKind.wrap IntKind.i64 (x.1.2.2.2.2.1 - (1 : Int)), x.1.2.2.2.2.2), x.2, ((0 : Int), ((0 : Int), (0 : Int)), ((0 : Int), (0 : Int)), (0 : Int), (0 : Int), (0 : Int), [], ((0 : Int), []), []), ())))) := by kernel_rfl
theorem tick8_tree : (fun x : (Bool × Unit) × DPort × DRules × DPort × Unit => pieceT (mkC tys tickG []) (fnOf Tryz.prog 40) [gPort, .bool, .bool] (tkT 27) tkM [tickB 7] (mkS tkS tkM x)) = (fun x => Tree.leaf (none, some ((x.1.1, x.2.1.1 == (2 : Int), ()), x.2.1, x.2.2.1, x.2.2.2.1, ()))) := by kernel_rfl
theorem tickX_tree : (fun x : (Bool × Bool × Unit) × DPort × DRules × DPort × Unit => pieceT (mkC tys tickG []) (fnOf Tryz.prog 40) [gPort, .bool, .bool] (tkT 41) tkM [tickX 0, tickX 1, tickX 2] (mkS (tkT 27) tkM x)) = (fun x => Tree.leaf (none, some ((x.1.1, decide ((bif decide (x.2.1.2.2.2.1 < x.2.2.1.2.1) then (x.2.1.1, x.2.1.2.1, x.2.1.2.2.1, IntKind.wrap IntKind.i64 (x.2.1.2.2.2.1 + (1 : Int)), x.2.1.2.2.2.2) else x.2.1).2.2.2.1 ≥ x.2.2.1.2.1), ()), bif decide (x.2.1.2.2.2.1 < x.2.2.1.2.1) then (x.2.1.1, x.2.1.2.1, x.2.1.2.2.1, IntKind.wrap IntKind.i64 (x.2.1.2.2.2.1 + (1 : Int)), x.2.1.2.2.2.2) else x.2.1, x.2.2.1, x.2.2.2.1, ()))) := by kernel_rfl
theorem tickF_tree : (fun x : (Bool × Bool × Unit) × DPort × DRules × DPort × Unit => pieceT (mkC tys tickG []) (fnOf Tryz.prog 40) [gPort, .bool, .bool] tkS tkM [tickB 11] (mkS (tkT 48) tkM x)) = (fun x => Tree.br x.1.2.1 (Tree.leaf (some (x.2.1, x.1.1, true), none)) (Tree.leaf (some (x.2.1, x.1.1, false), none))) := by kernel_rfl

abbrev TkX := (Bool × Unit) × DPort × DRules × DPort × Unit
theorem tick_all : seqs (bodyOf (fnOf Tryz.prog 40)) = [tickB 0, tickB 1, tickB 2, tickB 3, tickB 4, tickB 5, tickB 6, tickB 7, tickB 8, tickB 9, tickB 10, tickB 11] := by kernel_rfl
theorem tick_then : seqs (thenOf (tickB 8)) = [tickX 0, tickX 1, tickX 2, tickX 3] := by kernel_rfl
theorem tick_6 : tickB 6 = .region 7 (opsOf (tickB 6)) false := by kernel_rfl
theorem tick_8 : tickB 8 = .cond (.tmp 27) (thenOf (tickB 8)) .skip := by kernel_rfl
theorem tick_9 : tickB 9 = .region 13 (opsOf (tickB 9)) false := by kernel_rfl
theorem tick_10 : tickB 10 = .region 14 (opsOf (tickB 10)) false := by kernel_rfl
theorem tick_x3 : tickX 3 = .cond (.tmp 41) (thenOf (tickX 3)) .skip := by kernel_rfl
theorem tick_12 : thenOf (tickX 3) = .region 12 (opsOf (thenOf (tickX 3))) false := by kernel_rfl
theorem i64_zero (w : World) : (zeroValue 3).run Tryz.prog w = .ok (.int .i64 0) w := by
  obtain ⟨ti, h1, h2, h3⟩ := (tysOK 3 ⟨.int .i64, 0, 8, 0⟩ (by kernel_rfl)).info
  have h4 : ti.zero = some (.int .i64 0) := h3
  simp [zeroValue, typeInfo, h1, h4]

attribute [local irreducible] fnOf bodyOf

def tickQ (R0 : Ref) (y : DPort × Bool × Bool) : Exit → Act → World → Prop := finQ (mkC tys tickG []) (fnOf Tryz.prog 40) [gPort, .bool, .bool] R0 y

theorem tick_tail (R0 : Ref) (b : Frame) (hb : b.kind ≠ .early) {c sn rn : Nat} {buf : Array Value} {x : TkX} {a : Act} {w : World} (h : Hd R0 c (.chan 1 buf false sn rn false) 53 8 (mkS tkS tkM x) a w) :
    LTo Tryz.prog b [tickB 9, tickB 10, tickB 11] (tickQ R0 (x.2.1, x.1.1, !buf.isEmpty)) a w := by
  show CodeTo Tryz.prog b (tickB 9) (Exit.then (LTo Tryz.prog b [tickB 10, tickB 11] (tickQ R0 (x.2.1, x.1.1, !buf.isEmpty))) (tickQ R0 (x.2.1, x.1.1, !buf.isEmpty))) a w
  rw [tick_9]
  refine CodeTo.region ?_
  rw [show List.range (opsOf (tickB 9)).size = [0] by kernel_rfl]
  refine h.move (o := opOf (tickB 9) 0) (k := 45) (by kernel_rfl) (by kernel_rfl) (by kernel_rfl) (by kernel_rfl) rfl (by omega) (by omega) fun a1 h1 hc1 => ?_
  refine RegTo.nil ?_
  show CodeTo Tryz.prog b (tickB 10) (Exit.then (LTo Tryz.prog b [tickB 11] (tickQ R0 (x.2.1, x.1.1, !buf.isEmpty))) (tickQ R0 (x.2.1, x.1.1, !buf.isEmpty))) a1 w
  rw [tick_10]
  refine CodeTo.region ?_
  rw [show List.range (opsOf (tickB 10)).size = [0, 1, 2] by kernel_rfl]
  refine h1.select (o := opOf (tickB 10) 0) (k := 46) (x := 45) (et := 3) (z := .int .i64 0) (by kernel_rfl) (by kernel_rfl) hb (by kernel_rfl) (by kernel_rfl) hc1 (i64_zero w) (by omega) (by omega) fun buf' rn' a2 w2 h2 => ?_
  have hm : ((if buf.isEmpty = true then (-1 : Int) else 0) == 0) = !buf.isEmpty := by cases buf.isEmpty <;> rfl
  generalize (if buf.isEmpty = true then (-1 : Int) else 0) = m at h2 hm
  refine h2.op (C := mkC tys tickG []) tysOK tickG_ok (o := opOf (tickB 10) 1) (e := ⟨.val (.int .i64) m, [], none⟩) (by kernel_rfl) (by kernel_rfl) (by kernel_rfl) (fun p hp => by cases hp) (dst_ok (show (opOf (tickB 10) 1).dst = some 47 by kernel_rfl) rfl) fun a3 w3 h3 _ => ?_
  refine h3.op (C := mkC tys tickG []) tysOK tickG_ok (o := opOf (tickB 10) 2) (e := ⟨.val .bool (m == 0), [], none⟩) (by kernel_rfl) (by kernel_rfl) (by kernel_rfl) (fun p hp => by cases hp) (dst_ok (show (opOf (tickB 10) 2).dst = some 48 by kernel_rfl) rfl) fun a4 w4 h4 _ => ?_
  refine RegTo.nil ?_
  have h5 := h4.restr (L := { prom := [], keep := (tkT 48).map (·.1), boxes := tkM.map (·.1), sum := fun _ => .stuck }) (s' := mkS (tkT 48) tkM ((x.1.1, m == 0, ()), x.2)) (by kernel_rfl)
  rw [hm] at h5
  show LTo Tryz.prog b ([tickB 11] ++ []) (tickQ R0 (x.2.1, x.1.1, !buf.isEmpty)) a4 w4
  refine h5.piece (C := mkC tys tickG []) tysOK tickG_ok mixed (fn := fnOf Tryz.prog 40) (res := [gPort, .bool, .bool]) (ts := tkS) (bs := tkM) (G := fun p => p = (some (x.2.1, x.1.1, !buf.isEmpty), none)) (by kernel_rfl) ?_ ?_ ?_ ?_
  · rw [congrFun tickF_tree _]
    simp only [Tree.holds]
    cases buf.isEmpty <;> simp
  · intro y s' a' w' hy k1 k2 k3
    simp only [Prod.mk.injEq, Option.some.injEq, and_true] at hy
    exact ⟨.inr rfl, k2, s', k1, by rw [← hy]; exact k3⟩
  · intro y a' w' hy; cases hy
  · intro hy; cases hy

theorem make_chan (w : World) {a : Act} {o : Oper} (ho : o.op = .makeChan 154 (.const (.int .i64 1))) : (execOp a.eval o).run Tryz.prog w = .ok (.value (.chan (some w.heap.size))) (w.alloc (.chan 1 #[] false 0 0 false)) := by
  have hu : Tryz.prog.underlying 154 = some (.chan .both 3) := by kernel_rfl
  have hb : (Tryz.prog.info? 3).map (·.bytes) = some 8 := by kernel_rfl
  obtain ⟨i, hi, hb⟩ := Option.map_eq_some_iff.1 hb
  have h1 := run_makeChan (P := Tryz.prog) (w := w) hu hi .i64 1 (by omega) (by rw [hb]; omega)
  have h2 : (Instr.makeChan 154 (.int .i64 1)).run Tryz.prog w = .ok (.chan (some w.heap.size)) (w.alloc (.chan 1 #[] false 0 0 false)) := by simpa using h1
  have he : a.eval (.const (.int .i64 1)) = .int .i64 1 := rfl
  unfold execOp
  rw [ho]
  simp [he, h2]

theorem tick_send (R0 : Ref) (b : Frame) (hb : b.kind ≠ .early) {c : Nat} {x : TkX} {y : DPort × Bool × Bool} {a : Act} {w : World} (h : Hd R0 c (.chan 1 #[] false 0 0 false) 53 8 (mkS tkS tkM x) a w) (hy : (x.2.1, x.1.1, true) = y) :
    CodeTo Tryz.prog b (thenOf (tickX 3)) (Exit.then (LTo Tryz.prog b [tickB 9, tickB 10, tickB 11] (tickQ R0 y)) (tickQ R0 y)) a w := by
  rw [tick_12]
  refine CodeTo.region ?_
  rw [show List.range (opsOf (thenOf (tickX 3))).size = [0, 1, 2, 3] by kernel_rfl]
  refine h.move (o := opOf (thenOf (tickX 3)) 0) (k := 42) (by kernel_rfl) (by kernel_rfl) (by kernel_rfl) (by kernel_rfl) rfl (by omega) (by omega) fun a1 h1 hc1 => ?_
  refine h1.op (C := mkC tys tickG []) tysOK tickG_ok (o := opOf (thenOf (tickX 3)) 1) (e := (opEff tys (fun f => lk f tickG) 43 (opOf (thenOf (tickX 3)) 1) ((mkS tkS tkM x).args (opOf (thenOf (tickX 3)) 1))).getD ⟨.undef, [], none⟩) (by kernel_rfl) (by kernel_rfl) (by kernel_rfl) (fun p hp => ?_) (dst_ok (show (opOf (thenOf (tickX 3)) 1).dst = some 43 by kernel_rfl) rfl) fun a2 w2 h2 k2 => ?_
  · have : ((opEff tys (fun f => lk f tickG) 43 (opOf (thenOf (tickX 3)) 1) ((mkS tkS tkM x).args (opOf (thenOf (tickX 3)) 1))).getD ⟨.undef, [], none⟩).need = none := by kernel_rfl
    rw [this] at hp; cases hp
  have hc2 := (k2 42 (by rw [show (opOf (thenOf (tickX 3)) 1).dst = some 43 by kernel_rfl]; intro e; cases e)).trans hc1
  refine h2.op (C := mkC tys tickG []) tysOK tickG_ok (o := opOf (thenOf (tickX 3)) 2) (e := ⟨.val (.int .i64) x.2.1.2.2.2.1, [], none⟩) (by kernel_rfl) (by kernel_rfl) (by kernel_rfl) (fun p hp => by cases hp) (dst_ok (show (opOf (thenOf (tickX 3)) 2).dst = some 44 by kernel_rfl) rfl) fun a3 w3 h3 k3 => ?_
  have hc3 := (k3 42 (by rw [show (opOf (thenOf (tickX 3)) 2).dst = some 44 by kernel_rfl]; intro e; cases e)).trans hc2
  refine h3.send (o := opOf (thenOf (tickX 3)) 3) (k := 42) (y := .tmp 44) (by kernel_rfl) (by kernel_rfl) hb (by kernel_rfl) (by kernel_rfl) hc3 (by decide) fun v w4 h4 => ?_
  refine RegTo.nil ?_
  have h5 := h4.restr (L := { prom := [], keep := tkS.map (·.1), boxes := tkM.map (·.1), sum := fun _ => .stuck }) (s' := mkS tkS tkM x) (by kernel_rfl)
  have := tick_tail R0 b hb h5
  have e : (!(#[].push v).isEmpty) = true := by simp
  rw [e, hy] at this
  exact this

theorem tick_ok : CtrOK Tryz.prog 40 tickC :=
  ctr_of_to (C := mkC tys tickG []) tysOK (by kernel_rfl) (by kernel_rfl) (by kernel_rfl) (fun x => by rw [show (fnOf Tryz.prog 40).ntmps = 53 by kernel_rfl]; show 2 ≤ 53; omega) fun R0 b (x : DPort × DRules) a0 hbk _ _ h0 hsz0 hd0 => by
    rw [show (fnOf Tryz.prog 40).ntmps = 53 by kernel_rfl] at hsz0
    rw [tick_all]
    show LTo Tryz.prog b ([tickB 0, tickB 1, tickB 2, tickB 3, tickB 4, tickB 5] ++ [tickB 6, tickB 7, tickB 8, tickB 9, tickB 10, tickB 11]) (tickQ R0 (tickF x.1 x.2)) a0 R0.w0
    have hcalm : calmL 53 60 [tickB 0, tickB 1, tickB 2, tickB 3, tickB 4, tickB 5] = true := by kernel_rfl
    have hA : (pieceT (mkC tys tickG []) (fnOf Tryz.prog 40) [gPort, .bool, .bool] tkS tkM [tickB 0, tickB 1, tickB 2, tickB 3, tickB 4, tickB 5] { tmps := number 0 (resL [gPort, gRules] x), boxes := [] }).holds fun p =>
        ((x.1.1 == (0 : Int)) = true ∧ p = (some (x.1, false, false), none)) ∨ ((x.1.1 == (0 : Int)) = false ∧ p = (none, some ((dueF x.1, ()), stepF x.2 x.1, x.2, ((0 : Int), ((0 : Int), (0 : Int)), ((0 : Int), (0 : Int)), (0 : Int), (0 : Int), (0 : Int), [], ((0 : Int), []), []), ()))) := by
      rw [congrFun tickA_tree x]
      simp only [Tree.holds]
      exact ⟨fun h => .inl ⟨h, trivial⟩, fun h => .inr ⟨h, rfl⟩⟩
    have h0' : IsSt R0 { tmps := number 0 (resL [gPort, gRules] x), boxes := [] } a0 R0.w0 := h0
    refine piece_to (C := mkC tys tickG []) tysOK tickG_ok mixed (fn := fnOf Tryz.prog 40) (res := [gPort, .bool, .bool]) (ts := tkS) (bs := tkM) (calmL_lam hcalm) (fun y hy t ht => by rw [hsz0]; exact (calmL_wr hcalm y hy t ht).1) h0' hA ?_ ?_ ?_
    · intro y s' a' w' hy k1 k2 k3
      rcases hy with ⟨e, hy⟩ | ⟨_, hy⟩
      · simp only [Prod.mk.injEq, Option.some.injEq, and_true] at hy
        refine ⟨.inr rfl, k2.trans hd0, s', k1, ?_⟩
        have : tickF x.1 x.2 = y := by rw [hy]; simp only [tickF, e]; rfl
        rw [this]; exact k3
      · cases hy
    · intro y a1 w1 hy k1 k2 k3 _
      rcases hy with ⟨_, hy⟩ | ⟨e, hy⟩
      · cases hy
      simp only [Prod.mk.injEq, Option.some.injEq, true_and] at hy
      subst hy
      show CodeTo Tryz.prog b (tickB 6) (Exit.then (LTo Tryz.prog b [tickB 7, tickB 8, tickB 9, tickB 10, tickB 11] (tickQ R0 (tickF x.1 x.2))) (tickQ R0 (tickF x.1 x.2))) a1 w1
      rw [tick_6]
      refine CodeTo.region ?_
      rw [show List.range (opsOf (tickB 6)).size = [0, 1] by kernel_rfl]
      refine RegTo.value (o := opOf (tickB 6) 0) (v := .chan (some w1.heap.size)) (w' := w1.alloc (.chan 1 #[] false 0 0 false)) (by kernel_rfl) (by kernel_rfl) (make_chan w1 (by kernel_rfl)) ?_
      rw [show (opOf (tickB 6) 0).dst = some 24 by kernel_rfl]
      have hsz1 : a1.tmps.size = 53 := k2.trans hsz0
      have k4 := (k1.grows (Grows.alloc w1 (.chan 1 #[] false 0 0 false))).put_undef (d := 24) (v := .chan (some w1.heap.size)) rfl (by rw [hsz1]; omega)
      have e24 : (a1.put (some 24) (.chan (some w1.heap.size))).eval (.tmp 24) = .chan (some w1.heap.size) := put_at (by rw [hsz1]; omega)
      have hsz2 : (a1.put (some 24) (.chan (some w1.heap.size))).tmps.size = 53 := (put_size _ _ _).trans hsz1
      have hd2 : (a1.put (some 24) (.chan (some w1.heap.size))).defers = [] := (put_defers' _ _ _).trans (k3.trans hd0)
      generalize a1.put (some 24) (.chan (some w1.heap.size)) = a2 at k4 e24 hsz2 hd2 ⊢
      refine RegTo.value (o := opOf (tickB 6) 1) (v := .chan (some w1.heap.size)) (w' := w1.alloc (.chan 1 #[] false 0 0 false)) (by kernel_rfl) (by kernel_rfl) ?_ ?_
      · unfold execOp
        rw [show (opOf (tickB 6) 1).op = .assign (.tmp 24) by kernel_rfl]
        simp only [e24]
        rfl
      rw [show (opOf (tickB 6) 1).dst = some 8 by kernel_rfl]
      refine RegTo.nil ?_
      have k5 := at_make (n := 53) (d := 8) (k4.put_undef (d := 8) (v := .chan (some w1.heap.size)) rfl (by rw [hsz2]; omega)) k1.grow ((put_size _ _ _).trans hsz2) ((put_defers' _ _ _).trans hd2) (put_at (by rw [hsz2]; omega))
      generalize a2.put (some 8) (.chan (some w1.heap.size)) = a3 at k5 ⊢
      generalize w1.heap.size = c at k5
      generalize w1.alloc (.chan 1 #[] false 0 0 false) = w3 at k5 ⊢
      show LTo Tryz.prog b ([tickB 7] ++ [tickB 8, tickB 9, tickB 10, tickB 11]) (tickQ R0 (tickF x.1 x.2)) a3 w3
      refine k5.piece (C := mkC tys tickG []) tysOK tickG_ok mixed (fn := fnOf Tryz.prog 40) (res := [gPort, .bool, .bool]) (ts := tkT 27) (bs := tkM) (G := fun p => p = (none, some ((dueF x.1, (stepF x.2 x.1).1 == (2 : Int), ()), stepF x.2 x.1, x.2, ((0 : Int), ((0 : Int), (0 : Int)), ((0 : Int), (0 : Int)), (0 : Int), (0 : Int), (0 : Int), [], ((0 : Int), []), []), ()))) (by kernel_rfl) ?_ ?_ ?_ ?_
      · rw [congrFun tick8_tree _]
        rfl
      · intro y s' a' w' hy; cases hy
      · intro y a4 w4 hy k6
        simp only [Prod.mk.injEq, Option.some.injEq, true_and] at hy
        subst hy
        show CodeTo Tryz.prog b (tickB 8) (Exit.then (LTo Tryz.prog b [tickB 9, tickB 10, tickB 11] (tickQ R0 (tickF x.1 x.2))) (tickQ R0 (tickF x.1 x.2))) a4 w4
        rw [tick_8]
        refine CodeTo.cond (t := (stepF x.2 x.1).1 == (2 : Int)) (k6.old.bool rfl) ?_
        cases h2 : (stepF x.2 x.1).1 == (2 : Int) with
        | false =>
          refine CodeTo.skip ?_
          have k7 := k6.restr (L := { prom := [], keep := tkS.map (·.1), boxes := tkM.map (·.1), sum := fun _ => .stuck }) (s' := mkS tkS tkM ((dueF x.1, ()), stepF x.2 x.1, x.2, ((0 : Int), ((0 : Int), (0 : Int)), ((0 : Int), (0 : Int)), (0 : Int), (0 : Int), (0 : Int), [], ((0 : Int), []), []), ())) (by kernel_rfl)
          have := tick_tail R0 b hbk k7
          have e2 : tickF x.1 x.2 = (stepF x.2 x.1, dueF x.1, false) := by simp only [tickF, e, h2]; rfl
          rw [e2]
          exact this
        | true =>
          have e2 : tickF x.1 x.2 = (quietF x.2 (stepF x.2 x.1), dueF x.1, decide ((quietF x.2 (stepF x.2 x.1)).2.2.2.1 ≥ x.2.2.1)) := by simp only [tickF, e, h2]; rfl
          rw [e2]
          rw [if_pos rfl]
          refine CodeTo.seqs ?_
          rw [tick_then]
          generalize hq : Exit.then (LTo Tryz.prog b [tickB 9, tickB 10, tickB 11] (tickQ R0 (quietF x.2 (stepF x.2 x.1), dueF x.1, decide ((quietF x.2 (stepF x.2 x.1)).2.2.2.1 ≥ x.2.2.1)))) (tickQ R0 (quietF x.2 (stepF x.2 x.1), dueF x.1, decide ((quietF x.2 (stepF x.2 x.1)).2.2.2.1 ≥ x.2.2.1))) = Q1
          show LTo Tryz.prog b ([tickX 0, tickX 1, tickX 2] ++ [tickX 3]) Q1 a4 w4
          refine k6.piece (C := mkC tys tickG []) tysOK tickG_ok mixed (fn := fnOf Tryz.prog 40) (res := [gPort, .bool, .bool]) (ts := tkT 41) (bs := tkM) (G := fun p => p = (none, some ((dueF x.1, decide ((quietF x.2 (stepF x.2 x.1)).2.2.2.1 ≥ x.2.2.1), ()), quietF x.2 (stepF x.2 x.1), x.2, ((0 : Int), ((0 : Int), (0 : Int)), ((0 : Int), (0 : Int)), (0 : Int), (0 : Int), (0 : Int), [], ((0 : Int), []), []), ()))) (by kernel_rfl) ?_ ?_ ?_ ?_
          · rw [congrFun tickX_tree _]
            rfl
          · intro y s' a' w' hy; cases hy
          · intro y a5 w5 hy k7
            simp only [Prod.mk.injEq, Option.some.injEq, true_and] at hy
            subst hy
            have k8 := k7.restr (L := { prom := [], keep := tkS.map (·.1), boxes := tkM.map (·.1), sum := fun _ => .stuck }) (s' := mkS tkS tkM ((dueF x.1, ()), quietF x.2 (stepF x.2 x.1), x.2, ((0 : Int), ((0 : Int), (0 : Int)), ((0 : Int), (0 : Int)), (0 : Int), (0 : Int), (0 : Int), [], ((0 : Int), []), []), ())) (by kernel_rfl)
            refine CodeTo.mono (Q := Q1) ?_ (fun e a w hq => by cases e <;> exact hq)
            rw [tick_x3]
            refine CodeTo.cond (t := decide ((quietF x.2 (stepF x.2 x.1)).2.2.2.1 ≥ x.2.2.1)) (k7.old.bool rfl) ?_
            cases h3 : decide ((quietF x.2 (stepF x.2 x.1)).2.2.2.1 ≥ x.2.2.1) with
            | false =>
              rw [h3] at hq
              refine CodeTo.skip ?_
              rw [← hq]
              exact tick_tail R0 b hbk k8
            | true =>
              rw [h3] at hq
              rw [← hq]
              exact tick_send R0 b hbk k8 rfl
          · intro hy; cases hy
      · intro hy; cases hy
    · rintro (⟨_, h⟩ | ⟨_, h⟩) <;> cases h
end Go.Ev.Z
/- Whatever is lost, late, or comes twice: at last all has come. -/
set_option linter.unusedVariables false
set_option linter.unusedSimpArgs false
namespace Go.Ev
abbrev meH (n : Int) : DHello := (n, ((1, 0), (2, 0)))
theorem risek_len : ∀ (S : List DKept) (lo hi : Int), RiseK S → (∀ x ∈ S, lo ≤ x.1 ∧ x.1 < hi) → S ≠ [] → (S.length : Int) ≤ hi - lo
  | [], _, _, _, _, h => absurd rfl h
  | [x], lo, hi, _, h, _ => by have := h x (by simp); simp; omega
  | x :: y :: l, lo, hi, hr, h, _ => by
    have h1 := List.pairwise_cons.1 hr
    have hx := h x (by simp)
    have ih := risek_len (y :: l) (x.1 + 1) hi h1.2 (fun z hz => by have g1 := h1.1 z hz; have g2 := (h z (List.mem_cons_of_mem _ hz)).2; omega) (by simp)
    rw [List.length_cons]
    omega
theorem kept_len {h : DHello} {ps : DPs} {S : List DKept} {m : Nat} {A : List DPart} {g : List DItem} {got : List (List DItem)} (s : Sess h ps S m A g got) : S.length ≤ ps.length := by
  by_cases hS : S = []
  · subst hS; simp
  · have := risek_len S 0 ps.length s.rise (fun x hx => by
      obtain ⟨i, h1, h2, _⟩ := s.kept x hx
      omega) hS
    omega
theorem dec_len : ∀ (ps : DPs) (ms : List (List DItem)) (g : List DItem), (ps.foldl stepD (ms, g)).1.length ≤ ms.length + ps.length
  | [], ms, g => by simp
  | x :: ps, ms, g => by
    rw [List.foldl_cons, List.length_cons]
    unfold stepD
    cases x.1 with
    | true =>
      have := dec_len ps ms (g ++ x.2)
      simp only [cond_true]
      unfold stepD at this
      omega
    | false =>
      have := dec_len ps (ms ++ [g ++ x.2]) []
      rw [List.length_append, List.length_singleton] at this
      simp only [cond_false]
      unfold stepD at this
      omega
abbrev McS := DMrl × DMrl × List (List UInt8) × List (List UInt8) × List (List DItem) × List (List DItem)
structure CarI (ps : DPs) (S : List DKept) (m : Nat) (A : List DPart) (g : List DItem) (a b : DMrl) (sent got : List (List DItem)) : Prop where
  sess : Sess (meH 1) ps S m A g got
  dec : decD ps = (sent, [])
  ea : a = ((ps.length : Int), S, (0, []), [])
  eb : b = (0, [], ((m : Int), A), g)
structure CarW (ps : DPs) (m : Nat) (A : List DPart) (way back : List (List UInt8)) : Prop where
  way : ∀ s ∈ way, ∃ q, q < ps.length ∧ s = frPart (partN (meH 1) ps q)
  back : ∀ s ∈ back, s = [] ∨ ∃ a, AckIn a ∧ Says m A a ∧ s = frAck a
def CarS (k kb : Nat) (x : McS) : Prop := ∃ (ps : DPs) (S : List DKept) (m : Nat) (A : List DPart) (g : List DItem), CarI ps S m A g x.1 x.2.1 x.2.2.2.2.1 x.2.2.2.2.2 ∧ CarW ps m A x.2.2.1 x.2.2.2.1 ∧ (∀ y ∈ S, y.2.2.1 = 1 ∧ y.2.2.2 = 2) ∧ ps.length ≤ 8 * k ∧ x.2.2.1.length ≤ 8 * k ∧ x.2.2.2.1.length ≤ kb
theorem CarS.more {k k' kb kb' : Nat} {x : McS} (h : CarS k kb x) (hk : k ≤ k') (hkb : kb ≤ kb') : CarS k' kb' x := by
  obtain ⟨ps, S, m, A, g, h1, h2, h3, h4, h5, h6⟩ := h
  exact ⟨ps, S, m, A, g, h1, h2, h3, by omega, by omega, by omega⟩
def leftM (b : DMrl) (a : DAck) : DMrl := (b.1, leftF b.2.1 a, b.2.2)
/-! All that is kept is sent again -/
end Go.Ev
/- A link, in plain Lean: what its functions answer, and how two ends meet. -/
set_option linter.unusedVariables false
set_option linter.unusedSimpArgs false
namespace Go.Ev
def noMrl : DMrl := (0, [], (0, []), [])
def offP : DPort := (0, (0, 0), (0, 0), 0, 0, noMrl)
def lagainF (p : DPort) (t : Int × Int) : DPort × Int := bif (nextF p.2.1).2 != (0 : Int) then (offP, (nextF p.2.1).2) else ((1, (nextF p.2.1).1, t, 0, 0, noMrl), 0)
def lsendF (p : DPort) (n : Int) (l : List DItem) (r : DRules) : DPort × List (List UInt8) × Int :=
  bif p.1 != (2 : Int) then (p, [], 7) else bif (sendF p.2.2.2.2.2 (n, p.2.1, p.2.2.1) l r).2.2 != (0 : Int) then (p, [], (sendF p.2.2.2.2.2 (n, p.2.1, p.2.2.1) l r).2.2)
  else ((p.1, p.2.1, p.2.2.1, p.2.2.2.1, p.2.2.2.2.1, (sendF p.2.2.2.2.2 (n, p.2.1, p.2.2.1) l r).1), (sendF p.2.2.2.2.2 (n, p.2.1, p.2.2.1) l r).2.1, 0)
def lpartF (p : DPort) (n : Int) (x : DPart) : DPort × List (List UInt8) × List (List DItem) × Int :=
  bif !(bif p.1 == (2 : Int) then sameF (p.2.1, p.2.2.1) x.2.1 else false) then (p, [], [], 6)
  else bif (bif (hearF p.2.2.2.2.2 (n, p.2.1, p.2.2.1) x).2.2.2 != (0 : Int) then (hearF p.2.2.2.2.2 (n, p.2.1, p.2.2.1) x).2.2.2 != (6 : Int) else false) then (p, [], [], (hearF p.2.2.2.2.2 (n, p.2.1, p.2.2.1) x).2.2.2)
  else ((p.1, p.2.1, p.2.2.1, 0, p.2.2.2.2.1, (hearF p.2.2.2.2.2 (n, p.2.1, p.2.2.1) x).1), [(hearF p.2.2.2.2.2 (n, p.2.1, p.2.2.1) x).2.1], (hearF p.2.2.2.2.2 (n, p.2.1, p.2.2.1) x).2.2.1, (hearF p.2.2.2.2.2 (n, p.2.1, p.2.2.1) x).2.2.2)
def upB (p : DPort) (h : DHello) : Bool := bif (bif p.1 != (1 : Int) then true else !geq (.prod (.int .u32) (.int .u32)) h.2.2 p.2.1) then true else noneF p.2.1
def shhearF (p : DPort) (h : DHello) : DPort × Int :=
  bif (bif p.1 == (0 : Int) then true else !hokF h) then (p, 0) else bif newerF p.2.2.1 h.2.1 then (p, 3) else bif (bif p.1 == (2 : Int) then newerF h.2.1 p.2.2.1 else false) then (p, 2)
  else bif upB p h then ((p.1, p.2.1, h.2.1, 0, p.2.2.2.2), 0) else ((2, p.2.1, h.2.1, 0, p.2.2.2.2), 1)
def hreadF (s : List UInt8) : DHello × Int :=
  bif decide ((s.length : Int) < 17) then ((0, ((0, 0), (0, 0))), 2) else bif (takeF s 1).2.2 != (0 : Int) then ((0, ((0, 0), (0, 0))), (takeF s 1).2.2) else bif (readF (takeF s 1).2.1).2.2 != (0 : Int) then ((0, ((0, 0), (0, 0))), (readF (takeF s 1).2.1).2.2)
  else bif (bif !hokF (IntKind.i64.wrap (takeF s 1).1, (readF (takeF s 1).2.1).1) then true else (bif decide (((readF (takeF s 1).2.1).2.1.length : Int) > 0) then (3 : Int) else 0) != (0 : Int)) then ((0, ((0, 0), (0, 0))), 3)
  else ((IntKind.i64.wrap (takeF s 1).1, (readF (takeF s 1).2.1).1), 0)
def lackF (p : DPort) (a : DAck) : DPort × Int :=
  bif !(bif p.1 == (2 : Int) then sameF (p.2.1, p.2.2.1) a.2.1 else false) then (p, 6) else ((p.1, p.2.1, p.2.2.1, 0, p.2.2.2.2.1, leftM p.2.2.2.2.2 a), 0)
def saidF (s : List UInt8) : DHello × Bool := ((hreadF (openF s).2.1).1, bif bif (openF s).2.2 == (0 : Int) then (hreadF (openF s).2.1).2 == (0 : Int) else false then (openF s).1 == (1 : Int) else false)
def sayF (p : DPort) (n : Int) : List (List UInt8) := bif (wrappedF 1 (helloF (n, p.2.1, p.2.2.1)).1 (helloF (n, p.2.1, p.2.2.1)).2).2 != (0 : Int) then [] else [(wrappedF 1 (helloF (n, p.2.1, p.2.2.1)).1 (helloF (n, p.2.1, p.2.2.1)).2).1]
def saysB (p : DPort) (h : DHello) : Bool := bif p.1 != (0 : Int) then !geq gE h.2.2 p.2.1 else false
def lhelloF (p : DPort) (n : Int) (h : DHello) : DPort × List (List UInt8) × Int :=
  bif (shhearF p h).2 == (1 : Int) then ((shhearF p h).1, sayF (shhearF p h).1 n, (shhearF p h).2)
  else bif (shhearF p h).2 == (2 : Int) then (bif (lagainF (shhearF p h).1 h.2.1).2 != (0 : Int) then ((lagainF (shhearF p h).1 h.2.1).1, [], (shhearF p h).2) else ((lagainF (shhearF p h).1 h.2.1).1, sayF (lagainF (shhearF p h).1 h.2.1).1 n, (shhearF p h).2))
  else bif (shhearF p h).2 == (0 : Int) then (bif saysB (shhearF p h).1 h then ((shhearF p h).1, sayF (shhearF p h).1 n, (shhearF p h).2) else ((shhearF p h).1, [], (shhearF p h).2))
  else ((shhearF p h).1, [], (shhearF p h).2)
def frHello (h : DHello) : List UInt8 := sealF (frameT 1 (helloB h))
structure HelloIn (h : DHello) : Prop where
  from0 : 0 ≤ h.1
  from1 : h.1 < 16
  some : noneF h.2.1 = false
  pair : wt gPair h.2
theorem HelloIn.ok {h : DHello} (k : HelloIn h) : hokF h = true := by
  unfold hokF
  rw [rightF_iff.2 ⟨k.from0, k.from1⟩, k.some]
  rfl
theorem helloB_parts {h : DHello} (k : HelloIn h) : helloB h = UInt8.ofNat h.1.toNat :: pairB h.2 := by
  unfold helloB
  rw [u64_id k.from0 (by have := k.from1; omega), num_one k.from0 (by have := k.from1; omega)]
  rfl
theorem helloB_len {h : DHello} (k : HelloIn h) : (helloB h).length = 17 := by
  rw [helloB_parts k, List.length_cons, pairB_len]
theorem hello_wrap {h : DHello} (k : HelloIn h) : wrappedF 1 (helloF h).1 (helloF h).2 = (frHello h, 0) := by
  unfold helloF
  rw [k.ok]
  show wrapF 1 (helloB h) = _
  exact wrap_in (by omega) (by omega) (by rw [helloB_len k]; omega)
theorem hello_back {h : DHello} (k : HelloIn h) : hreadF (helloB h) = (h, 0) := by
  have hb := helloB_parts k
  have hlen := helloB_len k
  have ht : takeF (helloB h) 1 = (h.1, pairB h.2, 0) := by
    have := take_byte (s := helloB h) (k := 0) (by omega)
    rw [List.drop_zero] at this
    rw [this, hb]
    have : byteN (UInt8.ofNat h.1.toNat :: pairB h.2) 0 = h.1 := byte_of k.from0 (by have := k.from1; omega)
    rw [this]
    rfl
  have hr : readF (pairB h.2) = (h.2, [], 0) := by
    have := read_pair k.pair []
    rwa [List.append_nil] at this
  have hi : IntKind.i64.wrap h.1 = h.1 := i64_id (by have := k.from0; omega) (by have := k.from1; omega)
  unfold hreadF
  rw [ht]
  simp only
  rw [hr]
  simp only
  rw [hi, show ((h.1, h.2) : DHello) = h from rfl, k.ok, decide_eq_false (by rw [hlen]; omega)]
  rfl
theorem said_hello {h : DHello} (k : HelloIn h) : saidF (frHello h) = (h, true) := by
  unfold saidF frHello
  rw [open_in (by omega) (by omega) (by rw [helloB_len k]; omega)]
  simp only
  rw [hello_back k]
  rfl
theorem say_in {p : DPort} {n : Int} (k : HelloIn (n, p.2.1, p.2.2.1)) : sayF p n = [frHello (n, p.2.1, p.2.2.1)] := by
  unfold sayF
  rw [hello_wrap k]
  rfl
/-! Two ends meet -/
structure EpIn (e : Int × Int) : Prop where
  w : wt gE e
  some : noneF e = false
theorem EpIn.pos {e : Int × Int} (h : EpIn e) : 0 ≤ e.1 ∧ 0 ≤ e.2 := by
  have h1 := (has_u32 _).1 h.w.1
  have h2 := (has_u32 _).1 h.w.2
  omega
theorem EpIn.ne {e : Int × Int} (h : EpIn e) : geq gE (0, 0) e = false := by
  have := h.some
  unfold noneF at this
  rw [geqE]
  rw [decide_eq_false_iff_not]
  rintro ⟨h1, h2⟩
  simp only at h1 h2
  rw [← h1, ← h2] at this
  cases this
theorem EpIn.newer {e : Int × Int} (h : EpIn e) : newerF (0, 0) e = false := by
  rw [newerF_eq, decide_eq_false_iff_not]
  have := h.pos
  simp only
  omega
theorem newer_self (e : Int × Int) : newerF e e = false := by
  rw [newerF_eq, decide_eq_false_iff_not]
  omega
theorem geqE_self (e : Int × Int) : geq gE e e = true := by
  rw [geqE]
  simp
theorem zero_u32 : wt gE ((0 : Int), (0 : Int)) := ⟨(has_u32 _).2 (by omega), (has_u32 _).2 (by omega)⟩
theorem hello_in {n : Int} {a t : Int × Int} (h0 : 0 ≤ n) (h1 : n < 16) (ha : EpIn a) (ht : wt gE t) : HelloIn (n, a, t) := ⟨h0, h1, ha.some, ⟨ha.w, ht⟩⟩
abbrev rules22 : DRules := (1, 5, 2, 3)
def ltickF (p : DPort) (n : Int) (r : DRules) : DPort × List (List UInt8) × Bool := ((tickF p r).1, (bif (tickF p r).2.1 then sayF (tickF p r).1 n else []), (tickF p r).2.2)
theorem meet_tick {a : Int × Int} (ha : EpIn a) : ltickF (1, a, (0, 0), 0, 0, noMrl) 1 rules22 = ((1, a, (0, 0), 0, 1, noMrl), [frHello (1, a, (0, 0))], false) := by
  have e : tickF (1, a, (0, 0), 0, 0, noMrl) rules22 = ((1, a, (0, 0), 0, 1, noMrl), true, false) := rfl
  unfold ltickF
  rw [e]
  simp only [cond_true]
  rw [say_in (hello_in (by omega) (by omega) ha zero_u32)]
theorem hear_first {n m : Int} {a b : Int × Int} {w : Int} (ha : EpIn a) (hb : EpIn b) (h0 : 0 ≤ n) (h1 : n < 16) (m0 : 0 ≤ m) (m1 : m < 16) : lhelloF (1, b, (0, 0), 0, w, noMrl) n (m, a, (0, 0)) = ((1, b, a, 0, w, noMrl), [frHello (n, b, a)], 0) := by
  have k := (hello_in m0 m1 ha zero_u32).ok
  have e : shhearF (1, b, (0, 0), 0, w, noMrl) (m, a, (0, 0)) = ((1, b, a, 0, w, noMrl), 0) := by
    unfold shhearF upB
    simp only
    rw [k, ha.newer]
    rw [show geq (.prod (.int .u32) (.int .u32)) ((0 : Int), (0 : Int)) b = false from hb.ne]
    rfl
  unfold lhelloF saysB
  rw [e]
  simp only
  rw [show geq gE ((0 : Int), (0 : Int)) b = false from hb.ne, say_in (hello_in h0 h1 hb ha.w)]
  rfl
theorem hear_up {n m : Int} {a b t : Int × Int} {w : Int} (ha : EpIn a) (hb : EpIn b) (ht : newerF t a = false) (h0 : 0 ≤ n) (h1 : n < 16) (m0 : 0 ≤ m) (m1 : m < 16) : lhelloF (1, b, t, 0, w, noMrl) n (m, a, b) = ((2, b, a, 0, w, noMrl), [frHello (n, b, a)], 1) := by
  have k := (hello_in m0 m1 ha hb.w).ok
  have e : shhearF (1, b, t, 0, w, noMrl) (m, a, b) = ((2, b, a, 0, w, noMrl), 1) := by
    unfold shhearF upB
    simp only
    rw [k, ht]
    rw [show geq (.prod (.int .u32) (.int .u32)) b b = true from geqE_self b, hb.some]
    rfl
  unfold lhelloF
  rw [e]
  simp only
  rw [say_in (hello_in h0 h1 hb ha.w)]
  rfl
theorem hear_last {n m : Int} {a b : Int × Int} {w : Int} (ha : EpIn a) (hb : EpIn b) (m0 : 0 ≤ m) (m1 : m < 16) : lhelloF (2, b, a, 0, w, noMrl) n (m, a, b) = ((2, b, a, 0, w, noMrl), [], 0) := by
  have k := (hello_in m0 m1 ha hb.w).ok
  have e : shhearF (2, b, a, 0, w, noMrl) (m, a, b) = ((2, b, a, 0, w, noMrl), 0) := by
    unfold shhearF upB
    simp only
    rw [k, newer_self]
    rfl
  unfold lhelloF saysB
  rw [e]
  simp only
  rw [geqE_self]
  rfl
abbrev MetS := DPort × DPort × List (List UInt8)
def metGo (x : MetS) : MetS :=
  bif (saidF (x.2.2.getD 0 [])).1.1 == (1 : Int) then (x.1, (lhelloF x.2.1 2 (saidF (x.2.2.getD 0 [])).1).1, (lhelloF x.2.1 2 (saidF (x.2.2.getD 0 [])).1).2.1)
  else ((lhelloF x.1 1 (saidF (x.2.2.getD 0 [])).1).1, x.2.1, (lhelloF x.1 1 (saidF (x.2.2.getD 0 [])).1).2.1)
section
variable {a b : Int × Int} (ha : EpIn a) (hb : EpIn b)
include ha hb
theorem met_1 : metGo ((1, a, (0, 0), 0, 1, noMrl), (1, b, (0, 0), 0, 0, noMrl), [frHello (1, a, (0, 0))]) = ((1, a, (0, 0), 0, 1, noMrl), (1, b, a, 0, 0, noMrl), [frHello (2, b, a)]) := by
  unfold metGo
  simp only [List.getD_cons_zero]
  rw [said_hello (hello_in (by omega) (by omega) ha zero_u32)]
  simp only
  rw [hear_first ha hb (by omega) (by omega) (by omega) (by omega)]
  rfl
theorem met_2 : metGo ((1, a, (0, 0), 0, 1, noMrl), (1, b, a, 0, 0, noMrl), [frHello (2, b, a)]) = ((2, a, b, 0, 1, noMrl), (1, b, a, 0, 0, noMrl), [frHello (1, a, b)]) := by
  unfold metGo
  simp only [List.getD_cons_zero]
  rw [said_hello (hello_in (by omega) (by omega) hb ha.w)]
  simp only
  rw [hear_up hb ha hb.newer (by omega) (by omega) (by omega) (by omega)]
  rfl
theorem met_3 : metGo ((2, a, b, 0, 1, noMrl), (1, b, a, 0, 0, noMrl), [frHello (1, a, b)]) = ((2, a, b, 0, 1, noMrl), (2, b, a, 0, 0, noMrl), [frHello (2, b, a)]) := by
  unfold metGo
  simp only [List.getD_cons_zero]
  rw [said_hello (hello_in (by omega) (by omega) ha hb.w)]
  simp only
  rw [hear_up ha hb (newer_self a) (by omega) (by omega) (by omega) (by omega)]
  rfl
theorem met_4 : metGo ((2, a, b, 0, 1, noMrl), (2, b, a, 0, 0, noMrl), [frHello (2, b, a)]) = ((2, a, b, 0, 1, noMrl), (2, b, a, 0, 0, noMrl), []) := by
  unfold metGo
  simp only [List.getD_cons_zero]
  rw [said_hello (hello_in (by omega) (by omega) hb ha.w)]
  simp only
  rw [hear_last hb ha (by omega) (by omega)]
  rfl
end
end Go.Ev
/- A row takes another key. -/
set_option linter.unusedVariables false
set_option linter.unusedSimpArgs false
namespace Go.Ev
open Go.Conc
section
variable {P : Program} {R0 : Ref} {K : Nat → Prop} {W : Nat → Option Obj} {n : Nat} {sl : List (Nat × Value)} {s : St} {D : List Deferred} {a : Act} {w : World}
variable {C : Ctx} {b : Frame} {Q : Exit → Act → World → Prop} {ops : Array Oper} {l : List Nat}
end
end Go.Ev
/- Closures that caught a number: made, and called. -/
set_option linter.unusedVariables false
set_option linter.unusedSimpArgs false
namespace Go.Ev
open Go.Conc
theorem start_clo {w : World} {S : Stab} {l : List AV} {us : List Value} (hS : ∀ b o, S b o → b < w.heap.size) (hT : Tab S w) (hrl : RelL ⟨w, S, fun _ => undef, []⟩ l us) (n : Nat) :
    IsSt ⟨w, fun _ => False, S, hT⟩ { tmps := number 0 l, boxes := [] } { tmps := us.toArray ++ Array.replicate (n - us.toArray.size) undef, defers := [] } w := by
  let R : Ref := ⟨w, fun _ => False, S, hT⟩
  let M : Mem := ⟨w, S, fun _ => undef, []⟩
  have I : InvM R M := ⟨rfl, rfl, rfl, Nat.le_refl _, fun _ _ _ => rfl, Keeps.refl _ _, fun b o hs => ⟨.inl hs, hS b o hs⟩, fun b d B hb => by simp [M, lk] at hb, fun b c d B d' B' _ hb => by simp [M, lk] at hb⟩
  refine ⟨M, rfl, rfl, I, fun t => ?_⟩
  show RelV M ((lk t (number 0 l)).getD .undef) _
  rw [lk_number]
  simp only [Nat.zero_le, if_true, Nat.sub_zero]
  cases hv : l[t]? with
  | none => simp [RelV]
  | some v =>
    obtain ⟨u, h1, h2⟩ := hrl.get t hv
    have hlt := (List.getElem?_eq_some_iff.1 h1).1
    have : (us.toArray ++ Array.replicate (n - us.toArray.size) undef).getD t undef = u := by
      simp only [Array.getD_eq_getD_getElem?]
      rw [Array.getElem?_append_left (by simpa using hlt)]
      simp [h1]
    rw [this]
    simpa using h2
theorem calls_rel {P : Program} {C : Ctx} (TOK : TysOK P C.τ) (GC : CtrsOK P C.Γ) (DK : DsOK P C) (hmix : P.follows .mixedOrders = true) {f : Nat} {fn : Func} {body : Code} {l : List AV} {res : List GTy} {y : dens res} (hf : P.funcs[f]? = some fn) (hbody : fn.body = some body)
    (hlam : LamOK C body) (h : (evFn C fn l res).holds (fun z => z = y)) {w : World} {S : Stab} {us : List Value} (hS : ∀ b o, S b o → b < w.heap.size) (hT : Tab S w) (hrl : RelL ⟨w, S, fun _ => undef, []⟩ l us) :
    Calls P f us.toArray w (fun e w' => ∃ v, e = .returned v ∧ Grows w w' ∧ ∃ N : Stab, (∀ b o, N b o → w.heap.size ≤ b ∧ b < w'.heap.size) ∧ RelRes w' (fun b o => S b o ∨ N b o) res y v) := by
  have hh := h
  simp only [evFn, hbody] at hh
  split at hh
  · exact hh.elim
  rename_i hsz
  have hh' := holds_bind.1 hh
  have hst := start_clo hS hT hrl fn.ntmps
  have hall : ∀ t ∈ writes body, t < (us.toArray ++ Array.replicate (fn.ntmps - us.toArray.size) undef).size := by
    intro t ht
    rw [List.all_eq_true] at hsz
    have := hsz t ht
    rw [Nat.blt_eq] at this
    simp
    omega
  refine calls_of_wp hf hbody (wp_mono ((ev_ok TOK GC DK hmix body hlam).1 ⟨w, fun _ => False, S, hT⟩ _ _ w _ hst hall hh') ?_)
  rintro e a' w' ⟨z, s', rfl, h1, h2, hap⟩
  cases z with
  | exit id => exact h1.elim
  | die v => exact h1.elim
  | normal => exact ⟨hap.defers, finish_st TOK h2 h1⟩
  | ret => exact ⟨hap.defers, finish_st TOK h2 h1⟩
theorem clo_ok {P : Program} {τ : Tys} {G : List (Nat × Ctr)} (TOK : TysOK P τ) (GC : CtrsOK P (fun f => lk f G)) (hmix : P.follows .mixedOrders = true) {f : Nat} {g : GTy} {res : List GTy} {F : den g × Int → dens res}
    (hf : (P.funcs[f]?).isSome = true) (hname : ((fnOf P f).name == "runtime.NumGoroutine") = false) (hbody : (fnOf P f).body.isSome = true) (hnl : (loopsOf (bodyOf (fnOf P f))).isEmpty = true)
    (h : ∀ x : den g × Int, (evFn (mkC τ G []) (fnOf P f) [.val g x.1, .ref (.int .i64) x.2] res).holds (fun y => y = F x)) : CloOK P f { args := [g, .int .i64], res := res, pre := none, fn := F } := by
  refine ⟨⟨fnOf P f, fnOf_eq hf, by rw [bodyOf_eq hbody]; rfl, hname⟩, fun w S us blk off n x hS hT hc hs henc hpre => ?_⟩
  obtain ⟨cs, us', h1, h2, cs2, h3, h4⟩ := henc
  obtain ⟨h5, h6⟩ : cs2 = [.int .i64 x.2] ∧ IntKind.i64.has x.2 := h3
  subst h5
  match us, h2 with
  | [u], h2 =>
    simp only [List.cons_append, List.nil_append, List.cons.injEq] at h2
    obtain ⟨h7, h8⟩ := h2
    rw [← h8] at h4
    have h9 : n = x.2 := by
      have : Value.int .i64 n = Value.int .i64 x.2 := (List.cons.inj h4).1
      cases this; rfl
    subst h9
    refine calls_rel (C := mkC τ G []) (l := [.val g x.1, .ref (.int .i64) x.2]) TOK GC (dsOK_nil rfl) hmix (fnOf_eq hf) (bodyOf_eq hbody) (lam_of _ fun id body hm L hL => ?_) (h x) hS hT ?_
    · cases hL
    · rw [List.cons_append, List.nil_append]
      refine ⟨⟨cs, h1, h7⟩, ⟨blk, off, [.int .i64 x.2], ⟨rfl, h6⟩, fun j v hj => ?_, rfl⟩, trivial⟩
      match j, hj with
      | 0, hj =>
        simp only [List.getElem?_cons_zero, Option.some.injEq] at hj
        subst hj
        exact ⟨hc, hs⟩
      | j + 1, hj => simp at hj
  | [], h2 =>
    have h8 := (List.cons.inj h2).2
    rw [← h8] at h4
    cases h4
  | _ :: _ :: _, h2 =>
    have h8 := (List.cons.inj h2).2
    rw [← h8] at h4
    have h9 := (List.cons.inj h4).2
    simp at h9
end Go.Ev
