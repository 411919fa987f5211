/- Ends that tick: who is heard, who is not. -/
import Derived.Test.YtohodbfoeejbjaaEvAlive
set_option linter.unusedVariables false
set_option linter.unusedSimpArgs false
namespace Go.Ev

theorem geqL (x y : Bool) : geq .bool x y = (x == y) := rfl
theorem smallMod (v : Int) {m : Int} (h1 : 0 < m) (h2 : m ≤ 100) : ∃ q, 0 ≤ q ∧ q < m ∧ Int.tmod (IntKind.wrap .u64 v) m = q ∧ IntKind.wrap .i64 q = q := by
  have h := wrap_has .u64 v
  rw [has_u64] at h
  have e : Int.tmod (IntKind.wrap .u64 v) m = IntKind.wrap .u64 v % m := Int.tmod_eq_emod_of_nonneg h.1
  have g1 := Int.emod_nonneg (IntKind.wrap .u64 v) (show m ≠ 0 by omega)
  have g2 := Int.emod_lt_of_pos (IntKind.wrap .u64 v) h1
  exact ⟨_, g1, g2, e, i64_id (by omega) (by omega)⟩

theorem tick_port {s w : Int} {r : DRules} (h1 : 0 ≤ s) (h2 : s + 1 < r.2.1) (h3 : r.2.1 ≤ 100) (h4 : 0 ≤ w) (h5 : w ≤ 100) (h6 : 1 ≤ r.1) :
    tickF (portAt s w) r = (portAt (s + 1) (if w ≤ 1 then r.1 else w - 1), decide (w ≤ 1), false) := by
  have e1 : IntKind.wrap .i64 (s + 1) = s + 1 := i64_id (by omega) (by omega)
  have e2 : IntKind.wrap .i64 (w - 1) = w - 1 := i64_id (by omega) (by omega)
  have e3 : dueF (portAt s w) = decide (w ≤ 1) := rfl
  have e4 : (if r.1 < (1 : Int) then (1 : Int) else r.1) = r.1 := by rw [if_neg (by omega)]
  have e5 : stepF r (portAt s w) = portAt s (if w ≤ 1 then r.1 else w - 1) := by
    by_cases h : w ≤ 1
    · have : dueF (portAt s w) = true := by rw [e3]; simp [h]
      unfold stepF; rw [this]; simp only [cond_true, portAt, e4, if_pos h]
    · have : dueF (portAt s w) = false := by rw [e3]; simp [h]
      unfold stepF; rw [this]; simp only [cond_false, portAt, e2, if_neg h]
  have e6 : quietF r (portAt s (if w ≤ 1 then r.1 else w - 1)) = portAt (s + 1) (if w ≤ 1 then r.1 else w - 1) := by
    have : decide ((portAt s (if w ≤ 1 then r.1 else w - 1)).2.2.2.1 < r.2.1) = true := by
      show decide (s < r.2.1) = true
      simp; omega
    simp only [quietF, this, cond_true]
    simp only [portAt, e1]
  have e7 : decide ((portAt (s + 1) (if w ≤ 1 then r.1 else w - 1)).2.2.2.1 ≥ r.2.1) = false := by
    show decide (s + 1 ≥ r.2.1) = false
    simp; omega
  show (bif (2 : Int) == 0 then _ else bif (stepF r (portAt s w)).1 == (2 : Int) then (quietF r (stepF r (portAt s w)), dueF (portAt s w), decide ((quietF r (stepF r (portAt s w))).2.2.2.1 ≥ r.2.1)) else _) = _
  rw [e5, e6, e7, e3]
  rfl

theorem tick_two {p : DPort} {r : DRules} (h0 : p.1 = 2) (h1 : 0 ≤ p.2.2.2.1) (h2 : p.2.2.2.1 < r.2.1) (h3 : r.2.1 ≤ 100) :
    (tickF p r).1.1 = 2 ∧ (tickF p r).1.2.2.2.1 = p.2.2.2.1 + 1 ∧ (tickF p r).2.2 = decide (p.2.2.2.1 + 1 ≥ r.2.1) := by
  obtain ⟨a, f1, f2, s, w, m⟩ := p
  simp only at h0 h1 h2
  subst h0
  have e1 : IntKind.wrap .i64 (s + 1) = s + 1 := i64_id (by omega) (by omega)
  have hs : (stepF r (2, f1, f2, s, w, m)).1 = 2 ∧ (stepF r (2, f1, f2, s, w, m)).2.2.2.1 = s := by
    unfold stepF
    cases dueF (2, f1, f2, s, w, m) <;> exact ⟨rfl, rfl⟩
  have hq : (quietF r (stepF r (2, f1, f2, s, w, m))).1 = 2 ∧ (quietF r (stepF r (2, f1, f2, s, w, m))).2.2.2.1 = s + 1 := by
    unfold quietF
    have : decide ((stepF r (2, f1, f2, s, w, m)).2.2.2.1 < r.2.1) = true := by rw [hs.2]; simp [h2]
    rw [this, hs.2]
    exact ⟨hs.1, by assumption⟩
  have e : tickF (2, f1, f2, s, w, m) r = (quietF r (stepF r (2, f1, f2, s, w, m)), dueF (2, f1, f2, s, w, m), decide ((quietF r (stepF r (2, f1, f2, s, w, m))).2.2.2.1 ≥ r.2.1)) := by
    have : ((stepF r (2, f1, f2, s, w, m)).1 == (2 : Int)) = true := by rw [hs.1]; rfl
    show (bif (2 : Int) == 0 then _ else bif (stepF r (2, f1, f2, s, w, m)).1 == (2 : Int) then _ else _) = _
    rw [this]
    rfl
  rw [e]
  refine ⟨hq.1, hq.2, ?_⟩
  show decide ((quietF r (stepF r (2, f1, f2, s, w, m))).2.2.2.1 ≥ r.2.1) = decide (s + 1 ≥ r.2.1)
  rw [hq.2]

def pre0 (h n i : Int) (r : DRules) (p : DPort) : Prop := 1 ≤ r.1 ∧ r.1 ≤ 4 ∧ 2 ≤ r.2.1 ∧ r.2.1 ≤ 10 ∧ 1 ≤ h ∧ h < r.2.1 ∧ 1 ≤ i ∧ i ≤ 61 ∧ p = portAt ((i - 1) % h) (waitAt r.1 i) ∧ n = (i + r.1 - 2) / r.1
def pre2 (j : Int) (r : DRules) (p : DPort) : Prop := 2 ≤ r.2.1 ∧ r.2.1 ≤ 10 ∧ 1 ≤ j ∧ j ≤ r.2.1 + 1 ∧ p.1 = 2 ∧ p.2.2.2.1 = j - 1

theorem wait_law {d i : Int} (h1 : 1 ≤ d) (h2 : d ≤ 4) (h3 : 1 ≤ i) (h4 : i ≤ 61) :
    0 ≤ waitAt d i ∧ waitAt d i ≤ 4 ∧ decide (waitAt d i ≤ 1) = ((i - 1) % d == 0) ∧ (if waitAt d i ≤ 1 then d else waitAt d i - 1) = waitAt d (i + 1) ∧ (bif decide (waitAt d i ≤ 1) then (i + d - 2) / d + 1 else (i + d - 2) / d) = (i + 1 + d - 2) / d := by
  have hd : d = 1 ∨ d = 2 ∨ d = 3 ∨ d = 4 := by omega
  have key : 0 ≤ waitAt d i ∧ waitAt d i ≤ 4 ∧ (waitAt d i ≤ 1 ↔ (i - 1) % d = 0) ∧ (if waitAt d i ≤ 1 then d else waitAt d i - 1) = waitAt d (i + 1) := by
    unfold waitAt
    rcases hd with rfl | rfl | rfl | rfl <;> by_cases hi : i ≤ 1 <;> simp only [hi, if_true, if_false] <;> rw [if_neg (by omega : ¬ i + 1 ≤ 1)] <;> (refine ⟨by omega, by omega, by omega, ?_⟩) <;> split <;> omega
  refine ⟨key.1, key.2.1, ?_, key.2.2.2, ?_⟩
  · rw [Bool.eq_iff_iff]; simp [key.2.2.1]
  · by_cases hw : waitAt d i ≤ 1
    · have h5 := key.2.2.1.1 hw
      simp only [hw, decide_true, cond_true]
      rcases hd with rfl | rfl | rfl | rfl <;> omega
    · have h5 := mt key.2.2.1.2 hw
      simp only [hw, decide_false, cond_false]
      rcases hd with rfl | rfl | rfl | rfl <;> omega

theorem mod_law {h i : Int} (h1 : 1 ≤ h) (h2 : h < 10) (h3 : 1 ≤ i) (h4 : i ≤ 61) : 0 ≤ (i - 1) % h ∧ (i - 1) % h < h ∧ (i % h = 0 ∨ i % h = (i - 1) % h + 1) := by
  have hh : h = 1 ∨ h = 2 ∨ h = 3 ∨ h = 4 ∨ h = 5 ∨ h = 6 ∨ h = 7 ∨ h = 8 ∨ h = 9 := by omega
  rcases hh with rfl | rfl | rfl | rfl | rfl | rfl | rfl | rfl | rfl <;> omega

theorem dies_step {h n i : Int} {r : DRules} {p : DPort} (hp : pre0 h n i r p) (hi : i ≤ 60) :
    (tickF p r).2.2 = false ∧ (tickF p r).2.1 = (Int.tmod (IntKind.wrap .i64 (i - 1)) r.1 == 0) ∧
      pre0 h (bif (tickF p r).2.1 then IntKind.wrap .i64 (n + 1) else n) (IntKind.wrap .i64 (i + 1)) r (bif Int.tmod i h == (0 : Int) then heardF (tickF p r).1 else (tickF p r).1) := by
  obtain ⟨a1, a2, a3, a4, a5, a6, a7, a8, rfl, rfl⟩ := hp
  obtain ⟨b1, b2, b3, b4, b5⟩ := wait_law a1 a2 a7 a8
  obtain ⟨c1, c2, c3⟩ := mod_law a5 (by omega) a7 a8
  rw [tick_port c1 (by omega) (by omega) b1 (by omega) a1]
  have ei : IntKind.wrap .i64 (i - 1) = i - 1 := i64_id (by omega) (by omega)
  have ej : IntKind.wrap .i64 (i + 1) = i + 1 := i64_id (by omega) (by omega)
  have hn : -1000 ≤ (i + r.1 - 2) / r.1 ∧ (i + r.1 - 2) / r.1 ≤ 1000 := by
    have hd : r.1 = 1 ∨ r.1 = 2 ∨ r.1 = 3 ∨ r.1 = 4 := by omega
    rcases hd with e | e | e | e <;> rw [e] <;> omega
  have en : IntKind.wrap .i64 ((i + r.1 - 2) / r.1 + 1) = (i + r.1 - 2) / r.1 + 1 := i64_id (by omega) (by omega)
  refine ⟨rfl, ?_, a1, a2, a3, a4, a5, a6, by omega, by omega, ?_, ?_⟩
  · rw [ei, Int.tmod_eq_emod_of_nonneg (by omega)]
    exact b3
  · rw [ej, Int.tmod_eq_emod_of_nonneg (by omega), show i + 1 - 1 = i by omega]
    show (bif i % h == 0 then heardF (portAt ((i - 1) % h + 1) (if waitAt r.1 i ≤ 1 then r.1 else waitAt r.1 i - 1)) else portAt ((i - 1) % h + 1) (if waitAt r.1 i ≤ 1 then r.1 else waitAt r.1 i - 1)) = _
    rw [b4]
    by_cases hm : i % h = 0
    · rw [hm]; rfl
    · have : (i % h == 0) = false := by simpa using hm
      rw [this]
      rcases c3 with c3 | c3
      · exact absurd c3 hm
      · rw [c3]; rfl
  · rw [en, ej]
    exact b5

theorem dead_step {j : Int} {r : DRules} {p : DPort} (hp : pre2 j r p) (hj : j ≤ r.2.1) :
    (tickF p r).2.2 = (j == r.2.1) ∧ pre2 (IntKind.wrap .i64 (j + 1)) r (tickF p r).1 ∧ runP r (r.2.1 + 1 - j).toNat p = runP r (r.2.1 + 1 - IntKind.wrap .i64 (j + 1)).toNat (tickF p r).1 := by
  obtain ⟨a1, a2, a3, a4, a5, a6⟩ := hp
  obtain ⟨b1, b2, b3⟩ := tick_two (r := r) a5 (by omega) (by omega) (by omega)
  have ej : IntKind.wrap .i64 (j + 1) = j + 1 := i64_id (by omega) (by omega)
  refine ⟨?_, ⟨a1, a2, by omega, by omega, b1, by omega⟩, ?_⟩
  · rw [b3, a6, Bool.eq_iff_iff]
    simp
    omega
  · rw [ej, show (r.2.1 + 1 - j).toNat = (r.2.1 + 1 - (j + 1)).toNat + 1 by omega]
    rfl
theorem count_law {d : Int} (h1 : 1 ≤ d) (h2 : d ≤ 4) : ((59 + d) / d == IntKind.wrap .i64 (IntKind.wrap .i64 (Int.tdiv 59 d) + 1)) = true := by
  have hd : d = 1 ∨ d = 2 ∨ d = 3 ∨ d = 4 := by omega
  rcases hd with rfl | rfl | rfl | rfl <;> rfl
theorem geqKept (x : DKept) : geq gKept x x = true := by simp [geq]
theorem geqItem (x : DItem) : geq gItem x x = true := by simp [geq]
theorem geqOne (x : Int × Int) : geq gE x x = true := by simp [geq]
theorem geqTwo (x : (Int × Int) × (Int × Int)) : geq gPair x x = true := by simp [geq]
def lgP (p : DPart) : Bool := decide ((p.2.2.2.2.length : Int) > 100)
def firstI : List DPart → Int → Int
  | [], i => i
  | p :: l, i => bif lgP p then i else firstI l (i + 1)
end Go.Ev
