/- Trees of destinations, in plain Lean. -/
import Derived.Test.YtohodbfoeejbjaaDoorTextTreeKeeps5

set_option linter.unusedVariables false
set_option linter.unusedSimpArgs false
namespace Go.Ev
abbrev gEnt : GTy := .prod (.int .u32) (.int .i64)
abbrev gTree : GTy := .arr 16 gEnt
abbrev DEnt := Int × Int
def farE : DEnt := ((4294967295 : Int), (-1 : Int))
def farT : List DEnt := List.replicate 16 farE
def entAt (t : List DEnt) (i : Nat) : DEnt := t.getD i ((0 : Int), (0 : Int))
def newT (r : Int) : List DEnt := bif rightF r then farT.set r.toNat ((0 : Int), (entAt farT r.toNat).2) else farT
def getT (t : List DEnt) (j : Int) : DEnt := bif !rightF j then farE else entAt t j.toNat
def putT (t : List DEnt) (j : Int) (e : DEnt) : List DEnt := bif rightF j then t.set j.toNat e else t
def dupB (t : List DEnt) : Nat → Int → Bool
  | 0, _ => false
  | k + 1, r => bif (entAt t (15 - k)).1 != (0 : Int) then dupB t k r else bif decide (r ≥ (0 : Int)) then true else dupB t k (15 - k : Nat)
def dupR (t : List DEnt) : Nat → Int → Int
  | 0, r => r
  | k + 1, r => bif (entAt t (15 - k)).1 != (0 : Int) then dupR t k r else bif decide (r ≥ (0 : Int)) then r else dupR t k (15 - k : Nat)
def dupI (t : List DEnt) : Nat → Int → Int
  | 0, r => r
  | k + 1, r => bif (entAt t (15 - k)).1 != (0 : Int) then dupI t k r else bif decide (r ≥ (0 : Int)) then (15 - k : Nat) else dupI t k (15 - k : Nat)
def lastR (t : List DEnt) : Nat → Int → Int
  | 0, r => r
  | k + 1, r => bif (entAt t (15 - k)).1 != (0 : Int) then lastR t k r else lastR t k (15 - k : Nat)
def rootT (t : List DEnt) : Int := bif dupB t 16 (-1) then -1 else lastR t 16 (-1)
theorem root_t {t : List DEnt} (h : dupB t 16 (-1) = true) : rootT t = -1 := by unfold rootT; rw [h]; rfl
theorem root_f {t : List DEnt} (h : dupB t 16 (-1) = false) : rootT t = lastR t 16 (-1) := by unfold rootT; rw [h]; rfl
def reachK (t : List DEnt) : Nat → Int → Int
  | 0, s => s
  | k + 1, s => reachK t k (bif (entAt t (15 - k)).1 != (4294967295 : Int) then withF s (15 - k : Nat) else s)
def reachT (t : List DEnt) : Int := reachK t 16 0
theorem ent_ext {a b : List DEnt} (ha : a.length = 16) (hb : b.length = 16) (h : ∀ j, j < 16 → entAt a j = entAt b j) : a = b := by
  refine List.ext_getElem (by omega) fun j h1 h2 => ?_
  have := h j (by omega)
  simpa [entAt, List.getD, h1, h2] using this
theorem ent_far {j : Nat} (h : j < 16) : entAt farT j = farE := by
  unfold entAt farT
  rw [List.getD_eq_getElem?_getD, List.getElem?_replicate, if_pos h]; rfl
theorem ent_set {t : List DEnt} {i j : Nat} {e : DEnt} (h : i < t.length) : entAt (t.set i e) j = if i = j then e else entAt t j := by
  unfold entAt
  simp only [List.getD, List.getElem?_set]
  by_cases hij : i = j
  · subst hij; simp [h]
  · simp [hij]
theorem step_i {i : Int} (h0 : 0 ≤ i) (h1 : i < 16) : (16 - i).toNat = (16 - (i + 1)).toNat + 1 ∧ 15 - (16 - (i + 1)).toNat = i.toNat := by omega
/-- One destination's text. -/
def entB (t : List DEnt) (j : Int) : List UInt8 := ((textN (withF 0 j) ++ natT (entAt t j.toNat).1.toNat) ++ textN (withF 0 (entAt t j.toNat).2)) ++ [32]
def treeB (t : List DEnt) : List UInt8 := (elemsF (reachT t) 16).flatMap (entB t)
theorem entB_len (t : List DEnt) (j : Int) : (entB t j).length ≤ 60 := by
  have h1 := textN_len (withF 0 j)
  have h2 := textN_len (withF 0 (entAt t j.toNat).2)
  have h3 := digN_len 20 (entAt t j.toNat).1.toNat
  unfold entB natT
  simp only [List.length_append, List.length_cons, List.length_nil]
  omega
def entsB (t : List DEnt) (l : List Int) : List UInt8 := l.flatMap (entB t)
theorem ents_cons (t : List DEnt) (j : Int) (l : List Int) : entsB t (j :: l) = entB t j ++ entsB t l := rfl
def tOK (t : List DEnt) : Prop := ∀ j : Nat, 0 ≤ (entAt t j).1 ∧ (entAt t j).1 ≤ 4294967295
theorem tOK_wt {t : List DEnt} (h : wt gTree t) : tOK t := fun j => by
  unfold entAt
  by_cases hl : j < t.length
  · have h2 := h.2 (t[j]) (List.getElem_mem hl)
    have h3 : IntKind.u32.has (t[j]).1 := h2.1
    rw [has_u32] at h3
    simpa [List.getD, hl] using h3
  · have : t.getD j ((0 : Int), (0 : Int)) = (0, 0) := by simp [List.getD, Nat.not_lt.1 hl]
    rw [this]; exact ⟨Int.le_refl _, by decide⟩
theorem udig_one {x : Int} (h0 : 0 ≤ x) (h1 : x < 10) : bytesToStr [IntKind.wrap IntKind.u8 (IntKind.wrap IntKind.u32 ((48 : Int) + x))] = natT x.toNat := by
  have h := dig_one h0 h1
  rw [show IntKind.wrap IntKind.i64 ((48 : Int) + x) = IntKind.wrap IntKind.u32 ((48 : Int) + x) by rw [i64_id (by omega) (by omega), u32_id (by omega) (by omega)]] at h
  rw [h]
  unfold digF
  rw [decide_eq_false (by omega)]
  rfl
theorem udig_more {x : Int} (h0 : ¬ x < 10) (h1 : x ≤ 4294967295) : natT (IntKind.wrap IntKind.u32 (Int.tdiv x (10 : Int))).toNat ++ bytesToStr [IntKind.wrap IntKind.u8 (IntKind.wrap IntKind.u32 ((48 : Int) + Int.tmod x (10 : Int)))] = natT x.toNat := by
  have h := dig_more h0 (by omega)
  have e1 : Int.tdiv x 10 = x / 10 := Int.tdiv_eq_ediv_of_nonneg (by omega)
  have e2 : Int.tmod x 10 = x % 10 := Int.tmod_eq_emod_of_nonneg (by omega)
  rw [e1, e2] at h ⊢
  rw [i64_id (by omega) (by omega), i64_id (by omega) (by omega)] at h
  rw [u32_id (by omega) (by omega), u32_id (by omega) (by omega)]
  unfold digF at h
  rw [decide_eq_false (by omega), decide_eq_false (by omega)] at h
  exact h
theorem tree_none : treeB farT = [] := by kernel_rfl
theorem new_none : newT (-1) = farT := by kernel_rfl
theorem wt_farT : wt gTree farT := by
  refine ⟨by kernel_rfl, fun x hx => ?_⟩
  have : x = farE := List.eq_of_mem_replicate hx
  rw [this]
  exact ⟨(has_u32 _).2 ⟨by decide, by decide⟩, (has_i64 _).2 ⟨by decide, by decide⟩⟩
theorem has_nat {m n : Nat} (hn : n < 16) : hasF (m : Int) (n : Int) = m.testBit n := by
  unfold hasF
  rw [right_nat hn, cond_true, bit_at hn, Nat.testBit_eq_decide_div_mod_eq]
  have : ((m : Int) / (2 ^ n : Nat)) % 2 = ((m / 2 ^ n % 2 : Nat) : Int) := by rw [Int.natCast_emod, Int.natCast_ediv]; rfl
  rw [this, Bool.eq_iff_iff]
  simp only [beq_iff_eq, decide_eq_true_eq]
  omega
theorem with_nat {m j : Nat} (hm : m < 65536) (hj : j < 16) : withF (m : Int) (j : Int) = ((m ||| 2 ^ j : Nat) : Int) := by
  have hp : 2 ^ j ≤ 2 ^ 15 := Nat.pow_le_pow_right (by omega) (by omega)
  have h15 : (2 : Nat) ^ 15 = 32768 := by decide
  have ho : m ||| 2 ^ j < 2 ^ 16 := Nat.or_lt_two_pow (by omega) (by omega)
  have h16 : (2 : Nat) ^ 16 = 65536 := by decide
  unfold withF
  rw [right_nat hj]
  simp only [Bool.not_true, cond_false]
  have e : min (j : Int).toNat 64 = j := by omega
  have e2 : (1 : Int) * 2 ^ j = ((2 ^ j : Nat) : Int) := by simp
  rw [e, e2]
  generalize 2 ^ j = p at hp ho ⊢
  rw [i64_id (by omega) (by omega)]
  exact or_nat (by omega) (by show (m : Int) < 2 ^ 64; omega) (by omega) (by show (p : Int) < 2 ^ 64; omega) ((has_i64 _).2 (by simp only [Int.toNat_natCast]; omega))
theorem reachK_nat (t : List DEnt) : ∀ k, k ≤ 16 → ∀ m : Nat, m < 65536 → ∃ m' : Nat, m' < 65536 ∧ reachK t k (m : Int) = (m' : Int) ∧ ∀ n, n < 16 → m'.testBit n = (m.testBit n || (decide (16 - k ≤ n) && ((entAt t n).1 != (4294967295 : Int))))
  | 0, _, m, hm => ⟨m, hm, rfl, fun n hn => by rw [decide_eq_false (by omega)]; simp⟩
  | k + 1, hk, m, hm => by
    have hw := with_nat (j := 15 - k) hm (by omega)
    have ho : m ||| 2 ^ (15 - k) < 2 ^ 16 := Nat.or_lt_two_pow (by omega) (Nat.lt_of_le_of_lt (Nat.pow_le_pow_right (by omega) (show 15 - k ≤ 15 by omega)) (by decide))
    have h16 : (2 : Nat) ^ 16 = 65536 := by decide
    cases hb : (entAt t (15 - k)).1 != (4294967295 : Int) with
    | true =>
      obtain ⟨m', h1, h2, h3⟩ := reachK_nat t k (by omega) (m ||| 2 ^ (15 - k)) (by omega)
      refine ⟨m', h1, ?_, fun n hn => ?_⟩
      · show reachK t k (bif (entAt t (15 - k)).1 != (4294967295 : Int) then withF (m : Int) ((15 - k : Nat) : Int) else (m : Int)) = _
        rw [hb, cond_true, hw, h2]
      · rw [h3 n hn, Nat.testBit_or, Nat.testBit_two_pow]
        by_cases e : 15 - k = n
        · rw [decide_eq_true e, decide_eq_true (show 16 - (k + 1) ≤ n by omega), ← e, hb]; simp
        · rw [decide_eq_false e]
          by_cases e2 : 16 - k ≤ n
          · rw [decide_eq_true e2, decide_eq_true (show 16 - (k + 1) ≤ n by omega)]; simp
          · rw [decide_eq_false e2, decide_eq_false (show ¬ 16 - (k + 1) ≤ n by omega)]; simp
    | false =>
      obtain ⟨m', h1, h2, h3⟩ := reachK_nat t k (by omega) m hm
      refine ⟨m', h1, ?_, fun n hn => ?_⟩
      · show reachK t k (bif (entAt t (15 - k)).1 != (4294967295 : Int) then withF (m : Int) ((15 - k : Nat) : Int) else (m : Int)) = _
        rw [hb, cond_false, h2]
      · rw [h3 n hn]
        by_cases e : 15 - k = n
        · rw [← e, hb]; simp
        · by_cases e2 : 16 - k ≤ n
          · rw [decide_eq_true e2, decide_eq_true (show 16 - (k + 1) ≤ n by omega)]
          · rw [decide_eq_false e2, decide_eq_false (show ¬ 16 - (k + 1) ≤ n by omega)]
theorem has_reach (t : List DEnt) {n : Int} (h0 : 0 ≤ n) (h1 : n < 16) : hasF (reachT t) n = ((entAt t n.toNat).1 != (4294967295 : Int)) := by
  obtain ⟨m', _, h2, h3⟩ := reachK_nat t 16 (by omega) 0 (by omega)
  obtain ⟨k, rfl⟩ := Int.eq_ofNat_of_zero_le h0
  have hk : k < 16 := by omega
  show hasF (reachK t 16 0) (k : Int) = _
  have h2' : reachK t 16 0 = (m' : Int) := h2
  rw [h2', has_nat hk, h3 k hk]
  simp
theorem put_get {t : List DEnt} {j i : Int} {e : DEnt} (ht : t.length = 16) (h0 : 0 ≤ j) (h1 : j < 16) (g0 : 0 ≤ i) (g1 : i < 16) : entAt (putT t j e) i.toNat = bif i == j then e else entAt t i.toNat := by
  unfold putT
  rw [rightF_iff.2 ⟨h0, h1⟩, cond_true, ent_set (by omega)]
  by_cases h : j = i
  · subst h; simp
  · rw [if_neg (by omega)]
    have : (i == j) = false := by simpa using fun h2 => h h2.symm
    rw [this]; rfl
theorem get_at {t : List DEnt} {i : Int} (g0 : 0 ≤ i) (g1 : i < 16) : getT t i = entAt t i.toNat := by
  unfold getT
  rw [rightF_iff.2 ⟨g0, g1⟩]; rfl
theorem new_root {j : Int} (h0 : 0 ≤ j) (h1 : j < 16) : rootT (newT j) = j ∧ reachT (newT j) = IntKind.i64.wrap (1 * 2 ^ min (IntKind.u64.wrap j).toNat 64) := by
  have hk : j = 0 ∨ j = 1 ∨ j = 2 ∨ j = 3 ∨ j = 4 ∨ j = 5 ∨ j = 6 ∨ j = 7 ∨ j = 8 ∨ j = 9 ∨ j = 10 ∨ j = 11 ∨ j = 12 ∨ j = 13 ∨ j = 14 ∨ j = 15 := by omega
  rcases hk with rfl | rfl | rfl | rfl | rfl | rfl | rfl | rfl | rfl | rfl | rfl | rfl | rfl | rfl | rfl | rfl <;> exact ⟨by kernel_rfl, by kernel_rfl⟩
theorem mod_in (j : Int) : 0 ≤ IntKind.i64.wrap (Int.tmod (IntKind.u64.wrap j) 16) ∧ IntKind.i64.wrap (Int.tmod (IntKind.u64.wrap j) 16) < 16 := by
  have h := wrap_has .u64 j
  rw [has_u64] at h
  rw [Int.tmod_eq_emod_of_nonneg h.1]
  have g1 := Int.emod_nonneg (IntKind.wrap .u64 j) (show (16 : Int) ≠ 0 by decide)
  have g2 := Int.emod_lt_of_pos (IntKind.wrap .u64 j) (show (0 : Int) < 16 by decide)
  rw [i64_id (by omega) (by omega)]
  exact ⟨g1, g2⟩
end Go.Ev

