/- The laws of epochs, plainly. -/
import Derived.Test.YtohodbfoeejbjaaEvEpoch
set_option linter.unusedVariables false
namespace Go.Ev

theorem newerF_eq (a b : Int × Int) : newerF a b = decide (a.1 > b.1 ∨ a.1 = b.1 ∧ a.2 > b.2) := by
  unfold newerF
  by_cases h : a.1 = b.1
  · simp [h]
  · have : (a.1 != b.1) = true := by simpa using h
    rw [this]
    simp [h]
theorem geqE (a b : Int × Int) : geq gE a b = decide (a.1 = b.1 ∧ a.2 = b.2) := by
  simp [geq, Bool.decide_and]
  rfl
theorem geqB (x y : Bool) : geq .bool x y = (x == y) := rfl
theorem order_no (a b c : Int × Int) :
    (bif bif bif newerF a b then newerF b a else false then true else !geq GTy.bool (geq gE a b) (bif !newerF a b then !newerF b a else false) then true else bif bif newerF a b then newerF b c else false then !newerF a c else false) = false := by
  cases h1 : newerF a b <;> cases h2 : newerF b a <;> cases h3 : newerF b c <;> cases h4 : newerF a c <;> cases h5 : geq gE a b <;>
    first
    | rfl
    | (exfalso
       rw [newerF_eq] at h1 h2 h3 h4
       rw [geqE] at h5
       simp only [decide_eq_true_eq, decide_eq_false_iff_not] at h1 h2 h3 h4 h5
       omega)
theorem order_yes (a : Int × Int) :
    (bif bif bif bif (nextF a).2 != 0 then true else newerF (nextF a).1 a then bif (rebootF a).2 != 0 then true else newerF (rebootF a).1 a else false then bif bif (nextF a).2 != 0 then true else (rebootF a).2 != 0 then true else newerF (rebootF a).1 (nextF a).1 else false then true else false) = true := by
  simp only [newerF_eq, nextF, rebootF]
  cases h1 : (a.2 == 4294967295) <;> cases h2 : (a.1 == 4294967295) <;> simp <;> omega

theorem big_num4 {n : Int} (h : 0 ≤ n ∧ n ≤ 4294967295) (l : List UInt8) : big4 (num4 n ++ l) = n := by
  unfold big4 num4
  rw [List.take_left' (numB_len 4 _), bigN_num]
  have h' : (256 : Nat) ^ 4 = 4294967296 := by decide
  omega
theorem read_pair {p : (Int × Int) × (Int × Int)} (h : wt gPair p) (s : List UInt8) : readF (pairB p ++ s) = (p, s, 0) := by
  obtain ⟨⟨a, b⟩, ⟨c, d⟩⟩ := p
  obtain ⟨⟨ha, hb⟩, ⟨hc, hd⟩⟩ := h
  simp only [wt, has_u32] at ha hb hc hd
  unfold readF pairB
  have hl : decide (((num4 a ++ num4 b ++ (num4 c ++ num4 d) ++ s).length : Int) < 16) = false := by
    simp only [List.length_append, num4_len]
    simp
    omega
  have h4 : ∀ (n : Int) (l : List UInt8), (num4 n ++ l).drop 4 = l := fun n l => List.drop_left' (num4_len n)
  have d4 : (num4 a ++ (num4 b ++ (num4 c ++ (num4 d ++ s)))).drop 4 = num4 b ++ (num4 c ++ (num4 d ++ s)) := h4 _ _
  have d8 : (num4 a ++ (num4 b ++ (num4 c ++ (num4 d ++ s)))).drop 8 = num4 c ++ (num4 d ++ s) := by
    rw [show (8 : Nat) = 4 + 4 from rfl, ← List.drop_drop, h4, h4]
  have d12 : (num4 a ++ (num4 b ++ (num4 c ++ (num4 d ++ s)))).drop 12 = num4 d ++ s := by
    rw [show (12 : Nat) = 8 + 4 from rfl, ← List.drop_drop, d8, h4]
  have d16 : (num4 a ++ (num4 b ++ (num4 c ++ (num4 d ++ s)))).drop 16 = s := by
    rw [show (16 : Nat) = 12 + 4 from rfl, ← List.drop_drop, d12, h4]
  rw [hl]
  simp only [List.append_assoc, cond_false]
  rw [d4, d8, d12, d16, big_num4 ha, big_num4 hb, big_num4 hc, big_num4 hd]
theorem geqPair (p q : (Int × Int) × (Int × Int)) : geq gPair p q = decide (p = q) := by
  obtain ⟨⟨a, b⟩, ⟨c, d⟩⟩ := p
  obtain ⟨⟨a', b'⟩, ⟨c', d'⟩⟩ := q
  simp only [geq]
  rw [Bool.eq_iff_iff]
  simp [and_assoc]
theorem pairB_len (p : (Int × Int) × (Int × Int)) : (pairB p).length = 16 := by simp [pairB, num4_len]
end Go.Ev
