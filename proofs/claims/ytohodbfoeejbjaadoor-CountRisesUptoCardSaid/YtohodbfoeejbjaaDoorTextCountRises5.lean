/- The laws of epochs, plainly. -/
import Derived.Test.YtohodbfoeejbjaaDoorTextCountRises4

set_option linter.unusedVariables false
namespace Go.Ev

theorem newerF_eq (a b : Int × Int) : newerF a b = decide (a.1 > b.1 ∨ a.1 = b.1 ∧ a.2 > b.2) := by
  unfold newerF
  by_cases h : a.1 = b.1
  · simp [h]
  · have : (a.1 != b.1) = true := by simpa using h
    rw [this]
    simp [h]
theorem geqE (a b : Int × Int) : geq gE a b = decide (a.1 = b.1 ∧ a.2 = b.2) := by
  simp [geq, Bool.decide_and]
  rfl
theorem geqB (x y : Bool) : geq .bool x y = (x == y) := rfl
theorem order_no (a b c : Int × Int) :
    (bif bif bif newerF a b then newerF b a else false then true else !geq GTy.bool (geq gE a b) (bif !newerF a b then !newerF b a else false) then true else bif bif newerF a b then newerF b c else false then !newerF a c else false) = false := by
  cases h1 : newerF a b <;> cases h2 : newerF b a <;> cases h3 : newerF b c <;> cases h4 : newerF a c <;> cases h5 : geq gE a b <;>
    first
    | rfl
    | (exfalso
       rw [newerF_eq] at h1 h2 h3 h4
       rw [geqE] at h5
       simp only [decide_eq_true_eq, decide_eq_false_iff_not] at h1 h2 h3 h4 h5
       omega)
theorem order_yes (a : Int × Int) :
    (bif bif bif bif (nextF a).2 != 0 then true else newerF (nextF a).1 a then bif (rebootF a).2 != 0 then true else newerF (rebootF a).1 a else false then bif bif (nextF a).2 != 0 then true else (rebootF a).2 != 0 then true else newerF (rebootF a).1 (nextF a).1 else false then true else false) = true := by
  simp only [newerF_eq, nextF, rebootF]
  cases h1 : (a.2 == 4294967295) <;> cases h2 : (a.1 == 4294967295) <;> simp <;> omega

theorem big_num4 {n : Int} (h : 0 ≤ n ∧ n ≤ 4294967295) (l : List UInt8) : big4 (num4 n ++ l) = n := by
  unfold big4 num4
  rw [List.take_left' (numB_len 4 _), bigN_num]
  have h' : (256 : Nat) ^ 4 = 4294967296 := by decide
  omega
theorem read_pair {p : (Int × Int) × (Int × Int)} (h : wt gPair p) (s : List UInt8) : readF (pairB p ++ s) = (p, s, 0) := by
  obtain ⟨⟨a, b⟩, ⟨c, d⟩⟩ := p
  obtain ⟨⟨ha, hb⟩, ⟨hc, hd⟩⟩ := h
  simp only [wt, has_u32] at ha hb hc hd
  unfold readF pairB
  have hl : decide (((num4 a ++ num4 b ++ (num4 c ++ num4 d) ++ s).length : Int) < 16) = false := by
    simp only [List.length_append, num4_len]
    simp
    omega
  have h4 : ∀ (n : Int) (l : List UInt8), (num4 n ++ l).drop 4 = l := fun n l => List.drop_left' (num4_len n)
  have d4 : (num4 a ++ (num4 b ++ (num4 c ++ (num4 d ++ s)))).drop 4 = num4 b ++ (num4 c ++ (num4 d ++ s)) := h4 _ _
  have d8 : (num4 a ++ (num4 b ++ (num4 c ++ (num4 d ++ s)))).drop 8 = num4 c ++ (num4 d ++ s) := by
    rw [show (8 : Nat) = 4 + 4 from rfl, ← List.drop_drop, h4, h4]
  have d12 : (num4 a ++ (num4 b ++ (num4 c ++ (num4 d ++ s)))).drop 12 = num4 d ++ s := by
    rw [show (12 : Nat) = 8 + 4 from rfl, ← List.drop_drop, d8, h4]
  have d16 : (num4 a ++ (num4 b ++ (num4 c ++ (num4 d ++ s)))).drop 16 = s := by
    rw [show (16 : Nat) = 12 + 4 from rfl, ← List.drop_drop, d12, h4]
  rw [hl]
  simp only [List.append_assoc, cond_false]
  rw [d4, d8, d12, d16, big_num4 ha, big_num4 hb, big_num4 hc, big_num4 hd]
theorem geqPair (p q : (Int × Int) × (Int × Int)) : geq gPair p q = decide (p = q) := by
  obtain ⟨⟨a, b⟩, ⟨c, d⟩⟩ := p
  obtain ⟨⟨a', b'⟩, ⟨c', d'⟩⟩ := q
  simp only [geq]
  rw [Bool.eq_iff_iff]
  simp [and_assoc]
theorem pairB_len (p : (Int × Int) × (Int × Int)) : (pairB p).length = 16 := by simp [pairB, num4_len]
end Go.Ev
/- Parcels, and by whom they go, plainly. -/
set_option linter.unusedVariables false
namespace Go.Ev

abbrev gFib : GTy := .prod (.int .i64) (.prod (.arr 16 (.int .i64)) (.arr 16 gPair))
abbrev gParcel : GTy := .prod (.int .i64) (.prod gPair (.prod (.int .i64) (.prod (.int .i64) (.prod (.int .i64) .str))))
abbrev DPair := (Int × Int) × (Int × Int)
abbrev DFib := Int × List Int × List DPair
abbrev DParcel := Int × DPair × Int × Int × Int × List UInt8

def rightF (n : Int) : Bool := bif decide (n ≥ 0) then decide (n < 16) else false
def parcel0 : DParcel := (0, ((0, 0), (0, 0)), 0, 0, 0, [])
def prightF (p : DParcel) : Bool :=
  bif bif bif bif bif rightF p.1 then rightF p.2.2.1 else false then rightF p.2.2.2.1 else false then decide (p.2.2.2.2.1 ≥ 1) else false then decide (p.2.2.2.2.1 ≤ 64) else false then decide ((p.2.2.2.2.2.length : Int) ≤ 64) else false
def hoppedF (p : DParcel) (n : Int) (e : DPair) : DParcel := bif decide (p.2.2.2.2.1 ≤ 1) then parcel0 else (n, e, p.2.2.1, p.2.2.2.1, IntKind.i64.wrap (p.2.2.2.2.1 - 1), p.2.2.2.2.2)
def hopF (p : DParcel) (n : Int) (e : DPair) : DParcel × Bool := (hoppedF p n e, !(geq gParcel (hoppedF p n e) parcel0))
def fib0 (self : Int) : DFib := (self, List.replicate 16 (-1), List.replicate 16 ((0, 0), (0, 0)))
def oldF (f : DFib) (p : DParcel) : Bool := bif bif !rightF p.1 then true else p.1 == f.1 then true else !sameF (f.2.2.getD p.1.toNat ((0, 0), (0, 0))) p.2.1
theorem rightF_iff {n : Int} : rightF n = true ↔ 0 ≤ n ∧ n < 16 := by
  unfold rightF
  cases h : decide (n ≥ 0) <;> simp at h ⊢ <;> omega
def fateF (f : DFib) (p : DParcel) (mine : Bool) : Int :=
  bif !prightF p then 3 else bif bif !mine then oldF f p else false then 4 else bif p.2.2.2.1 == f.1 then 0 else bif bif !mine then p.2.2.1 == f.1 else false then 5 else
    bif !rightF (f.2.1.getD p.2.2.2.1.toNat 0) then 3 else bif bif !mine then decide (p.2.2.2.2.1 ≤ 1) else false then 2 else 1
def outF (f : DFib) (p : DParcel) : Int × DParcel × Bool :=
  bif bif !rightF p.2.2.2.1 then true else !rightF (f.2.1.getD p.2.2.2.1.toNat 0) then (-1, parcel0, false) else
    (f.2.1.getD p.2.2.2.1.toNat 0, (f.1, f.2.2.getD (f.2.1.getD p.2.2.2.1.toNat 0).toNat ((0, 0), (0, 0)), p.2.2), true)
theorem prightF_dst {p : DParcel} (h : prightF p = true) : 0 ≤ p.2.2.2.1 ∧ p.2.2.2.1 < 16 := by
  unfold prightF at h
  cases h1 : rightF p.2.2.2.1 with
  | true => exact rightF_iff.1 h1
  | false => rw [h1] at h; cases hx : rightF p.1 <;> cases hy : rightF p.2.2.1 <;> simp [hx, hy] at h
def carryF (f : DFib) (p : DParcel) : Int × DParcel × Int :=
  bif fateF f p false != 1 then (-1, parcel0, fateF f p false) else bif geq gParcel (hopF p f.1 p.2.1).1 parcel0 then (-1, (hopF p f.1 p.2.1).1, fateF f p false) else
    ((outF f (hopF p f.1 p.2.1).1).1, (outF f (hopF p f.1 p.2.1).1).2.1, fateF f p false)
def beginF (f : DFib) (p : DParcel) : Int × DParcel × Int :=
  bif fateF f (f.1, p.2.1, f.1, p.2.2.2) true != 1 then (-1, parcel0, fateF f (f.1, p.2.1, f.1, p.2.2.2) true) else
    ((outF f (f.1, p.2.1, f.1, p.2.2.2)).1, (outF f (f.1, p.2.1, f.1, p.2.2.2)).2.1, fateF f (f.1, p.2.1, f.1, p.2.2.2) true)
def someFib : DFib := (1, (List.replicate 16 (-1)).set 3 2, ((List.replicate 16 ((0, 0), (0, 0))).set 2 ((1, 0), (2, 0))).set 4 ((1, 0), (9, 0)))
end Go.Ev
/- Nodes, costs and configurations, plainly. -/
set_option linter.unusedVariables false
namespace Go.Ev

abbrev gRules : GTy := .prod (.int .i64) (.prod (.int .i64) (.prod (.int .i64) (.int .i64)))
abbrev gCosts : GTy := .prod (.int .i64) (.arr 16 (.int .u32))
abbrev gConf : GTy := .prod (.int .i64) (.prod gRules gCosts)
abbrev DRules := Int × Int × Int × Int
abbrev DCosts := Int × List Int
abbrev DConf := Int × DRules × DCosts

/-- Bit n of a set. -/
def bitF (set n : Int) : Bool := bitsOp .and .i64 (Int.fdiv set (2 ^ min n.toNat 64)) 1 == 1
def hasF (set n : Int) : Bool := bif rightF n then bitF set n else false
def rcostF (n : Int) : Bool := bif decide (n ≥ 1) then decide (n ≤ 65536) else false
def withF (set n : Int) : Int := bif !rightF n then set else bitsOp .or .i64 set (IntKind.i64.wrap (1 * 2 ^ min n.toNat 64))
def withinF (n a b : Int) : Bool := bif decide (n ≥ a) then decide (n ≤ b) else false
def rulesF (r : DRules) : Bool := bif bif bif bif withinF r.1 1 100 then decide (r.2.1 > r.1) else false then decide (r.2.1 ≤ 1000) else false then withinF r.2.2.1 1 100 else false then withinF r.2.2.2 1 10 else false
def csetF (c : DCosts) (n w : Int) : DCosts × Int := bif bif !rightF n then true else !rcostF w then (c, 1) else ((withF c.1 n, c.2.set n.toNat w), 0)
/-- The set's nodes among the last k. -/
def elemsF (set : Int) : Nat → List Int
  | 0 => []
  | k + 1 => (bif hasF set (16 - (k + 1 : Nat)) then [(16 : Int) - (k + 1 : Nat)] else []) ++ elemsF set k
theorem elems_len (set : Int) : ∀ k, (elemsF set k).length ≤ k
  | 0 => Nat.le_refl _
  | k + 1 => by
    have := elems_len set k
    unfold elemsF
    cases hasF set (16 - (k + 1 : Nat)) <;> simp <;> omega
theorem list_step {s i : Int} {out : List Int} (h : 0 ≤ i ∧ i ≤ 16 ∧ (out.length : Int) ≤ i) :
    ((decide (i < 16) = true → (hasF s i = true → (out.length + 1) * 8 ≤ 140737488355328) ∧ ∃ y : (Int × Int × Unit) × List Int × Unit, some ((s, IntKind.i64.wrap (i + 1), ()), bif hasF s i then out ++ [i] else out, ()) = some y ∧
        (0 ≤ y.1.2.1 ∧ y.1.2.1 ≤ 16 ∧ (y.2.1.length : Int) ≤ y.1.2.1) ∧ (16 - y.1.2.1).toNat < (16 - i).toNat ∧ (Ex.exit 0, ((y.1.1, (16 : Int), ()), y.2.1 ++ elemsF y.1.1 (16 - y.1.2.1).toNat, ())) = (Ex.exit 0, ((s, (16 : Int), ()), out ++ elemsF s (16 - i).toNat, ()))) ∧
      (decide (i < 16) = false → ∃ y : (Int × Int × Unit) × List Int × Unit, some ((s, i, ()), out, ()) = some y ∧ (Ex.exit 0, ((s, (16 : Int), ()), out ++ elemsF s (16 - i).toNat, ())) = (Ex.exit 0, y))) := by
  obtain ⟨h1, h2, h3⟩ := h
  refine ⟨fun h => ?_, fun h => ?_⟩
  · have h' : i < 16 := by simpa using h
    have e : IntKind.i64.wrap (i + 1) = i + 1 := i64_id (by omega) (by omega)
    rw [e]
    refine ⟨fun _ => by omega, _, rfl, ⟨by simp only []; omega, by simp only []; omega, ?_⟩, by simp only []; omega, ?_⟩
    · cases hasF s i <;> simp <;> omega
    · simp only []
      rw [show (16 - i).toNat = (16 - (i + 1)).toNat + 1 by omega, elemsF, show (16 : Int) - ((16 - (i + 1)).toNat + 1 : Nat) = i by omega]
      cases hasF s i <;> simp
  · have h' : i = 16 := by
      have : ¬ i < 16 := by simpa using h
      omega
    subst h'
    exact ⟨_, rfl, by simp [elemsF]⟩
end Go.Ev
/- Sound costs, and configurations that may be, plainly. -/
set_option linter.unusedVariables false
set_option linter.unusedSimpArgs false
namespace Go.Ev
def costAt (c : DCosts) (n : Int) : Int := c.2.getD n.toNat 0
def okAt (c : DCosts) (n : Int) : Bool := bif hasF c.1 n then rcostF (costAt c n) else costAt c n == 0
def allOk (c : DCosts) : Nat → Bool
  | 0 => true
  | k + 1 => okAt c (16 - (k + 1 : Nat)) && allOk c k
def soundF (c : DCosts) : Bool := bif bif decide (c.1 < 0) then true else decide (c.1 ≥ 65536) then false else allOk c 16
def firstBad (c : DCosts) : Nat → Int
  | 0 => 16
  | k + 1 => bif okAt c (16 - (k + 1 : Nat)) then firstBad c k else 16 - (k + 1 : Nat)

def goodL (c : DCosts) (l : List Int) : Bool := l.all fun n => rcostF (costAt c n)
def fillL (c : DCosts) : List Int → List Int → List Int
  | [], w => w
  | n :: r, w => fillL c r (w.set n.toNat (costAt c n))
def badL (c : DCosts) : List Int → List Int → Int → Int × List Int
  | [], w, i => (i, w)
  | n :: r, w, i => bif rcostF (costAt c n) then badL c r (w.set n.toNat (costAt c n)) (i + 1) else (i, w)

theorem drop_step {α : Type} {l : List α} {i : Int} (d : α) (h0 : 0 ≤ i) (h1 : i < l.length) : l.drop i.toNat = l.getD i.toNat d :: l.drop (i + 1).toNat := by
  have h : i.toNat < l.length := by omega
  rw [List.drop_eq_getElem_cons h, show (i + 1).toNat = i.toNat + 1 by omega]
  simp [List.getD, h]

theorem mem_elems {s n : Int} : ∀ {k : Nat}, k ≤ 16 → (n ∈ elemsF s k ↔ 16 - (k : Int) ≤ n ∧ n < 16 ∧ hasF s n = true)
  | 0, _ => by simp [elemsF]; omega
  | k + 1, hk => by
    rw [elemsF, List.mem_append, mem_elems (by omega)]
    by_cases hn : n = 16 - ((k + 1 : Nat) : Int)
    · subst hn
      cases hasF s (16 - ((k + 1 : Nat) : Int)) <;> simp <;> omega
    · have : n ∈ (bif hasF s (16 - ((k + 1 : Nat) : Int)) then [(16 : Int) - ((k + 1 : Nat) : Int)] else []) ↔ False := by
        cases hasF s (16 - ((k + 1 : Nat) : Int)) with
        | false => simp
        | true => simp only [cond_true, List.mem_singleton, hn]
      rw [this, false_or]
      constructor
      · rintro ⟨a, b, c⟩; exact ⟨by omega, b, c⟩
      · rintro ⟨a, b, c⟩; exact ⟨by omega, b, c⟩

theorem allOk_iff {c : DCosts} : ∀ {k : Nat}, k ≤ 16 → (allOk c k = true ↔ ∀ n : Int, 16 - (k : Int) ≤ n → n < 16 → okAt c n = true)
  | 0, _ => by simp [allOk]; intro n h1 h2; omega
  | k + 1, hk => by
    rw [allOk, Bool.and_eq_true, allOk_iff (by omega)]
    constructor
    · rintro ⟨a, b⟩ n h1 h2
      by_cases hn : n = 16 - ((k + 1 : Nat) : Int)
      · rw [hn]; exact a
      · exact b n (by omega) h2
    · intro h
      exact ⟨h _ (by omega) (by omega), fun n h1 h2 => h n (by omega) h2⟩

theorem fill_len (c : DCosts) : ∀ (l w : List Int), (fillL c l w).length = w.length
  | [], w => rfl
  | n :: r, w => by rw [fillL, fill_len c r]; simp
theorem fill_get (c : DCosts) : ∀ (l w : List Int) (j : Nat), (∀ n ∈ l, 0 ≤ n) → j < w.length → (fillL c l w).getD j 0 = if (j : Int) ∈ l then costAt c j else w.getD j 0
  | [], w, j, _, hj => by simp [fillL]
  | n :: r, w, j, hp, hj => by
    have hn := hp n (by simp)
    rw [fillL, fill_get c r _ j (fun m hm => hp m (by simp [hm])) (by simpa using hj)]
    by_cases h : (j : Int) ∈ r
    · simp [h]
    · rw [if_neg h]
      by_cases h2 : (j : Int) = n
      · subst h2
        simp [hj]
      · have h3 : n.toNat ≠ j := by omega
        have h4 : ¬ (j : Int) ∈ n :: r := by simp [h, h2]
        rw [if_neg h4]
        simp [List.getD, List.getElem?_set, h3]

theorem go_int {k : IntKind} : ∀ (x y : List Int), x.length = y.length → geq.go (geq (.int k)) x y = decide (x = y)
  | [], [], _ => rfl
  | a :: x, b :: y, h => by
    have ih := go_int (k := k) x y (by simpa using h)
    simp only [geq.go, ih]
    show (a == b && decide (x = y)) = _
    rw [Bool.eq_iff_iff]
    simp
  | [], _ :: _, h => by simp at h
  | _ :: _, [], h => by simp at h
theorem geqArr {n : Nat} {k : IntKind} {x y : List Int} (h : x.length = y.length) : geq (.arr n (.int k)) x y = decide (x = y) := go_int x y h

theorem sound_core {c : DCosts} (hl : c.2.length = 16) :
    (bif goodL c (elemsF c.1 16) then geq (.arr 16 (.int .u32)) c.2 (fillL c (elemsF c.1 16) (List.replicate 16 0)) else false) = allOk c 16 := by
  obtain ⟨z, hz⟩ : ∃ z, z = List.replicate 16 (0 : Int) := ⟨_, rfl⟩
  have zl : z.length = 16 := by rw [hz]; rfl
  have z0 : ∀ j, z.getD j 0 = 0 := fun j => by
    rw [hz, List.getD, List.getElem?_replicate]
    split <;> rfl
  rw [← hz]
  clear hz
  rw [geqArr (by rw [fill_len, hl, zl]), Bool.eq_iff_iff, allOk_iff (Nat.le_refl _)]
  have hpos : ∀ n ∈ elemsF c.1 16, (0 : Int) ≤ n := fun n hn => by
    have := (mem_elems (Nat.le_refl _)).1 hn
    omega
  have hg : goodL c (elemsF c.1 16) = true ↔ ∀ n : Int, 0 ≤ n → n < 16 → hasF c.1 n = true → rcostF (costAt c n) = true := by
    unfold goodL
    rw [List.all_eq_true]
    constructor
    · intro h n h1 h2 h3
      exact h n ((mem_elems (Nat.le_refl _)).2 ⟨by omega, h2, h3⟩)
    · intro h n hn
      obtain ⟨h1, h2, h3⟩ := (mem_elems (Nat.le_refl _)).1 hn
      exact h n (by omega) h2 h3
  have he : c.2 = fillL c (elemsF c.1 16) z ↔ ∀ n : Int, 0 ≤ n → n < 16 → hasF c.1 n = false → costAt c n = 0 := by
    constructor
    · intro h n h1 h2 h3
      have hg := fill_get c (elemsF c.1 16) z n.toNat hpos (by omega)
      rw [← h] at hg
      have hm : ¬ ((n.toNat : Nat) : Int) ∈ elemsF c.1 16 := by
        rw [show ((n.toNat : Nat) : Int) = n by omega, mem_elems (Nat.le_refl _), h3]
        simp
      rw [if_neg hm] at hg
      unfold costAt
      rw [hg]
      exact z0 _
    · intro h
      apply List.ext_getElem
      · rw [fill_len, hl, zl]
      · intro j h1 h2
        have hj : j < 16 := by omega
        have hg := fill_get c (elemsF c.1 16) z j hpos (by omega)
        have e1 : (fillL c (elemsF c.1 16) z).getD j 0 = (fillL c (elemsF c.1 16) z)[j] := by rw [List.getD, List.getElem?_eq_getElem h2]; rfl
        have e2 : costAt c j = c.2[j] := by simp [costAt, List.getD, h1]
        rw [← e1, hg, ← e2]
        cases hb : hasF c.1 j with
        | true => rw [if_pos ((mem_elems (Nat.le_refl _)).2 ⟨by omega, by omega, hb⟩)]
        | false =>
          have hm : ¬ (j : Int) ∈ elemsF c.1 16 := by rw [mem_elems (Nat.le_refl _), hb]; simp
          rw [if_neg hm, h j (by omega) (by omega) hb]
          exact (z0 _).symm
  constructor
  · intro h n h1 h2
    cases hgg : goodL c (elemsF c.1 16) with
    | false => rw [hgg] at h; cases h
    | true =>
      rw [hgg] at h
      have h' := he.1 (of_decide_eq_true h)
      unfold okAt
      cases hb : hasF c.1 n with
      | true => exact hg.1 hgg n (by omega) h2 hb
      | false =>
        have := h' n (by omega) h2 hb
        simp [this]
  · intro h
    have h1 : goodL c (elemsF c.1 16) = true := hg.2 fun n h1 h2 h3 => by
      have := h n (by omega) h2
      unfold okAt at this
      rw [h3] at this
      exact this
    rw [h1]
    simp only [cond_true, decide_eq_true_eq]
    refine he.2 fun n h1 h2 h3 => ?_
    have := h n (by omega) h2
    unfold okAt at this
    rw [h3] at this
    simpa using this
theorem round_ok {c : DCosts} {n : Int} :
    (bif !geq GTy.bool (hasF c.1 n) (bif decide (costAt c n ≥ 1) then decide (costAt c n ≤ 65536) else false) then true else bif !hasF c.1 n then costAt c n != 0 else false) = !okAt c n := by
  unfold okAt rcostF
  rw [geqB]
  cases hasF c.1 n with
  | true => simp
  | false =>
    by_cases h : costAt c n = 0
    · simp [h]
    · have : (costAt c n != 0) = true := by simpa using h
      rw [this]
      have h2 : (costAt c n == 0) = false := by simpa using h
      rw [h2]
      simp
theorem sound_fn {c : DCosts} (hl : c.2.length = 16) :
    (bif bif decide (c.1 < 0) then true else decide (c.1 ≥ 65536) then false else bif goodL c (elemsF c.1 16) then geq (.arr 16 (.int .u32)) c.2 (fillL c (elemsF c.1 16) (List.replicate 16 0)) else false) = soundF c := by
  rw [sound_core hl]
  rfl
theorem rsound_fn (c : DCosts) : (bif allOk c 16 then bif decide (c.1 ≥ 0) then decide (c.1 ≤ 65535) else false else false) = soundF c := by
  unfold soundF
  cases allOk c 16 <;> by_cases h1 : c.1 < 0 <;> by_cases h2 : c.1 ≥ 65536 <;> simp [h1, h2] <;> omega
end Go.Ev
