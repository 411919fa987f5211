/- Sound costs, and configurations that may be, plainly. -/
import Derived.Test.YtohodbfoeejbjaaEvNodes
import Derived.Test.YtohodbfoeejbjaaEvLawEpoch
set_option linter.unusedVariables false
set_option linter.unusedSimpArgs false
namespace Go.Ev
def costAt (c : DCosts) (n : Int) : Int := c.2.getD n.toNat 0
def okAt (c : DCosts) (n : Int) : Bool := bif hasF c.1 n then rcostF (costAt c n) else costAt c n == 0
def allOk (c : DCosts) : Nat → Bool
  | 0 => true
  | k + 1 => okAt c (16 - (k + 1 : Nat)) && allOk c k
def soundF (c : DCosts) : Bool := bif bif decide (c.1 < 0) then true else decide (c.1 ≥ 65536) then false else allOk c 16
def firstBad (c : DCosts) : Nat → Int
  | 0 => 16
  | k + 1 => bif okAt c (16 - (k + 1 : Nat)) then firstBad c k else 16 - (k + 1 : Nat)

def goodL (c : DCosts) (l : List Int) : Bool := l.all fun n => rcostF (costAt c n)
def fillL (c : DCosts) : List Int → List Int → List Int
  | [], w => w
  | n :: r, w => fillL c r (w.set n.toNat (costAt c n))
def badL (c : DCosts) : List Int → List Int → Int → Int × List Int
  | [], w, i => (i, w)
  | n :: r, w, i => bif rcostF (costAt c n) then badL c r (w.set n.toNat (costAt c n)) (i + 1) else (i, w)

theorem drop_step {α : Type} {l : List α} {i : Int} (d : α) (h0 : 0 ≤ i) (h1 : i < l.length) : l.drop i.toNat = l.getD i.toNat d :: l.drop (i + 1).toNat := by
  have h : i.toNat < l.length := by omega
  rw [List.drop_eq_getElem_cons h, show (i + 1).toNat = i.toNat + 1 by omega]
  simp [List.getD, h]

theorem mem_elems {s n : Int} : ∀ {k : Nat}, k ≤ 16 → (n ∈ elemsF s k ↔ 16 - (k : Int) ≤ n ∧ n < 16 ∧ hasF s n = true)
  | 0, _ => by simp [elemsF]; omega
  | k + 1, hk => by
    rw [elemsF, List.mem_append, mem_elems (by omega)]
    by_cases hn : n = 16 - ((k + 1 : Nat) : Int)
    · subst hn
      cases hasF s (16 - ((k + 1 : Nat) : Int)) <;> simp <;> omega
    · have : n ∈ (bif hasF s (16 - ((k + 1 : Nat) : Int)) then [(16 : Int) - ((k + 1 : Nat) : Int)] else []) ↔ False := by
        cases hasF s (16 - ((k + 1 : Nat) : Int)) with
        | false => simp
        | true => simp only [cond_true, List.mem_singleton, hn]
      rw [this, false_or]
      constructor
      · rintro ⟨a, b, c⟩; exact ⟨by omega, b, c⟩
      · rintro ⟨a, b, c⟩; exact ⟨by omega, b, c⟩

theorem allOk_iff {c : DCosts} : ∀ {k : Nat}, k ≤ 16 → (allOk c k = true ↔ ∀ n : Int, 16 - (k : Int) ≤ n → n < 16 → okAt c n = true)
  | 0, _ => by simp [allOk]; intro n h1 h2; omega
  | k + 1, hk => by
    rw [allOk, Bool.and_eq_true, allOk_iff (by omega)]
    constructor
    · rintro ⟨a, b⟩ n h1 h2
      by_cases hn : n = 16 - ((k + 1 : Nat) : Int)
      · rw [hn]; exact a
      · exact b n (by omega) h2
    · intro h
      exact ⟨h _ (by omega) (by omega), fun n h1 h2 => h n (by omega) h2⟩

theorem fill_len (c : DCosts) : ∀ (l w : List Int), (fillL c l w).length = w.length
  | [], w => rfl
  | n :: r, w => by rw [fillL, fill_len c r]; simp
theorem fill_get (c : DCosts) : ∀ (l w : List Int) (j : Nat), (∀ n ∈ l, 0 ≤ n) → j < w.length → (fillL c l w).getD j 0 = if (j : Int) ∈ l then costAt c j else w.getD j 0
  | [], w, j, _, hj => by simp [fillL]
  | n :: r, w, j, hp, hj => by
    have hn := hp n (by simp)
    rw [fillL, fill_get c r _ j (fun m hm => hp m (by simp [hm])) (by simpa using hj)]
    by_cases h : (j : Int) ∈ r
    · simp [h]
    · rw [if_neg h]
      by_cases h2 : (j : Int) = n
      · subst h2
        simp [hj]
      · have h3 : n.toNat ≠ j := by omega
        have h4 : ¬ (j : Int) ∈ n :: r := by simp [h, h2]
        rw [if_neg h4]
        simp [List.getD, List.getElem?_set, h3]

theorem go_int {k : IntKind} : ∀ (x y : List Int), x.length = y.length → geq.go (geq (.int k)) x y = decide (x = y)
  | [], [], _ => rfl
  | a :: x, b :: y, h => by
    have ih := go_int (k := k) x y (by simpa using h)
    simp only [geq.go, ih]
    show (a == b && decide (x = y)) = _
    rw [Bool.eq_iff_iff]
    simp
  | [], _ :: _, h => by simp at h
  | _ :: _, [], h => by simp at h
theorem geqArr {n : Nat} {k : IntKind} {x y : List Int} (h : x.length = y.length) : geq (.arr n (.int k)) x y = decide (x = y) := go_int x y h

theorem sound_core {c : DCosts} (hl : c.2.length = 16) :
    (bif goodL c (elemsF c.1 16) then geq (.arr 16 (.int .u32)) c.2 (fillL c (elemsF c.1 16) (List.replicate 16 0)) else false) = allOk c 16 := by
  obtain ⟨z, hz⟩ : ∃ z, z = List.replicate 16 (0 : Int) := ⟨_, rfl⟩
  have zl : z.length = 16 := by rw [hz]; rfl
  have z0 : ∀ j, z.getD j 0 = 0 := fun j => by
    rw [hz, List.getD, List.getElem?_replicate]
    split <;> rfl
  rw [← hz]
  clear hz
  rw [geqArr (by rw [fill_len, hl, zl]), Bool.eq_iff_iff, allOk_iff (Nat.le_refl _)]
  have hpos : ∀ n ∈ elemsF c.1 16, (0 : Int) ≤ n := fun n hn => by
    have := (mem_elems (Nat.le_refl _)).1 hn
    omega
  have hg : goodL c (elemsF c.1 16) = true ↔ ∀ n : Int, 0 ≤ n → n < 16 → hasF c.1 n = true → rcostF (costAt c n) = true := by
    unfold goodL
    rw [List.all_eq_true]
    constructor
    · intro h n h1 h2 h3
      exact h n ((mem_elems (Nat.le_refl _)).2 ⟨by omega, h2, h3⟩)
    · intro h n hn
      obtain ⟨h1, h2, h3⟩ := (mem_elems (Nat.le_refl _)).1 hn
      exact h n (by omega) h2 h3
  have he : c.2 = fillL c (elemsF c.1 16) z ↔ ∀ n : Int, 0 ≤ n → n < 16 → hasF c.1 n = false → costAt c n = 0 := by
    constructor
    · intro h n h1 h2 h3
      have hg := fill_get c (elemsF c.1 16) z n.toNat hpos (by omega)
      rw [← h] at hg
      have hm : ¬ ((n.toNat : Nat) : Int) ∈ elemsF c.1 16 := by
        rw [show ((n.toNat : Nat) : Int) = n by omega, mem_elems (Nat.le_refl _), h3]
        simp
      rw [if_neg hm] at hg
      unfold costAt
      rw [hg]
      exact z0 _
    · intro h
      apply List.ext_getElem
      · rw [fill_len, hl, zl]
      · intro j h1 h2
        have hj : j < 16 := by omega
        have hg := fill_get c (elemsF c.1 16) z j hpos (by omega)
        have e1 : (fillL c (elemsF c.1 16) z).getD j 0 = (fillL c (elemsF c.1 16) z)[j] := by rw [List.getD, List.getElem?_eq_getElem h2]; rfl
        have e2 : costAt c j = c.2[j] := by simp [costAt, List.getD, h1]
        rw [← e1, hg, ← e2]
        cases hb : hasF c.1 j with
        | true => rw [if_pos ((mem_elems (Nat.le_refl _)).2 ⟨by omega, by omega, hb⟩)]
        | false =>
          have hm : ¬ (j : Int) ∈ elemsF c.1 16 := by rw [mem_elems (Nat.le_refl _), hb]; simp
          rw [if_neg hm, h j (by omega) (by omega) hb]
          exact (z0 _).symm
  constructor
  · intro h n h1 h2
    cases hgg : goodL c (elemsF c.1 16) with
    | false => rw [hgg] at h; cases h
    | true =>
      rw [hgg] at h
      have h' := he.1 (of_decide_eq_true h)
      unfold okAt
      cases hb : hasF c.1 n with
      | true => exact hg.1 hgg n (by omega) h2 hb
      | false =>
        have := h' n (by omega) h2 hb
        simp [this]
  · intro h
    have h1 : goodL c (elemsF c.1 16) = true := hg.2 fun n h1 h2 h3 => by
      have := h n (by omega) h2
      unfold okAt at this
      rw [h3] at this
      exact this
    rw [h1]
    simp only [cond_true, decide_eq_true_eq]
    refine he.2 fun n h1 h2 h3 => ?_
    have := h n (by omega) h2
    unfold okAt at this
    rw [h3] at this
    simpa using this
theorem round_ok {c : DCosts} {n : Int} :
    (bif !geq GTy.bool (hasF c.1 n) (bif decide (costAt c n ≥ 1) then decide (costAt c n ≤ 65536) else false) then true else bif !hasF c.1 n then costAt c n != 0 else false) = !okAt c n := by
  unfold okAt rcostF
  rw [geqB]
  cases hasF c.1 n with
  | true => simp
  | false =>
    by_cases h : costAt c n = 0
    · simp [h]
    · have : (costAt c n != 0) = true := by simpa using h
      rw [this]
      have h2 : (costAt c n == 0) = false := by simpa using h
      rw [h2]
      simp
theorem sound_fn {c : DCosts} (hl : c.2.length = 16) :
    (bif bif decide (c.1 < 0) then true else decide (c.1 ≥ 65536) then false else bif goodL c (elemsF c.1 16) then geq (.arr 16 (.int .u32)) c.2 (fillL c (elemsF c.1 16) (List.replicate 16 0)) else false) = soundF c := by
  rw [sound_core hl]
  rfl
theorem rsound_fn (c : DCosts) : (bif allOk c 16 then bif decide (c.1 ≥ 0) then decide (c.1 ≤ 65535) else false else false) = soundF c := by
  unfold soundF
  cases allOk c 16 <;> by_cases h1 : c.1 < 0 <;> by_cases h2 : c.1 ≥ 65536 <;> simp [h1, h2] <;> omega
end Go.Ev
