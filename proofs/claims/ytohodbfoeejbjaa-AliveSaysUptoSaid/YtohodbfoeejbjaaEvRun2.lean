/- Regions that have guards, or a draw: what stands in the slots and the boxes, whichever operations have been carried out. -/
import Derived.Test.YtohodbfoeejbjaaEvRun1
set_option linter.unusedVariables false
set_option linter.unusedSimpArgs false
namespace Go.Ev

def lay {α : Type} (b : Bool) (o : Option α) (d : α) : α :=
  match b, o with
  | true, some v => v
  | _, _ => d

/-- What lies on top of f, once those of L have been laid. -/
def ov {α : Type} (L : Nat → Bool) : List (Nat → Option α) → Nat → (Nat → α) → Nat → α
  | [], _, f => f
  | u :: us, k, f => ov L us (k + 1) fun t => lay (L k) (u t) (f t)

theorem ov_congr {α : Type} {L L' : Nat → Bool} {t : Nat} : ∀ {us : List (Nat → Option α)} {k : Nat} {f f' : Nat → α}, f t = f' t → (∀ i u, us[i]? = some u → u t ≠ none → L (k + i) = L' (k + i)) → ov L us k f t = ov L' us k f' t
  | [], _, _, _, hf, _ => hf
  | u :: us, k, f, f', hf, h => by
    simp only [ov]
    refine ov_congr ?_ (fun i u' hi hu => by have := h (i + 1) u' (by simpa using hi) hu; rwa [show k + 1 + i = k + (i + 1) by omega])
    cases hu : u t with
    | none => cases L k <;> cases L' k <;> simpa [lay] using hf
    | some v =>
      have := h 0 u (by simp) (by rw [hu]; simp)
      simp only [Nat.add_zero] at this
      rw [this]
      cases L' k <;> simp [lay, hf]

theorem ov_none {α : Type} {L : Nat → Bool} {t : Nat} : ∀ {us : List (Nat → Option α)} {k : Nat} {f : Nat → α}, (∀ i u, us[i]? = some u → u t ≠ none → L (k + i) = false) → ov L us k f t = f t
  | [], _, _, _ => rfl
  | u :: us, k, f, h => by
    simp only [ov]
    rw [ov_none (fun i u' hi hu => by have := h (i + 1) u' (by simpa using hi) hu; rwa [show k + 1 + i = k + (i + 1) by omega])]
    cases hu : u t with
    | none => cases L k <;> rfl
    | some v =>
      have := h 0 u (by simp) (by rw [hu]; simp)
      simp only [Nat.add_zero] at this
      rw [this]
      rfl

theorem ov_last {α : Type} {L : Nat → Bool} {t : Nat} {v : α} : ∀ {us : List (Nat → Option α)} {k : Nat} {f : Nat → α} (i : Nat) (u : Nat → Option α), us[i]? = some u → u t = some v → L (k + i) = true →
    (∀ j u, i < j → us[j]? = some u → u t ≠ none → L (k + j) = false) → ov L us k f t = v
  | [], _, _, i, u, hi, _, _, _ => by simp at hi
  | u0 :: us, k, f, 0, u, hi, hu, hL, h => by
    simp only [List.getElem?_cons_zero, Option.some.injEq] at hi
    subst hi
    simp only [ov]
    simp only [Nat.add_zero] at hL
    rw [ov_none (fun j u' hj hu' => by have := h (j + 1) u' (by omega) (by simpa using hj) hu'; rwa [show k + 1 + j = k + (j + 1) by omega])]
    rw [hL, hu]
    rfl
  | u0 :: us, k, f, i + 1, u, hi, hu, hL, h => by
    simp only [ov]
    exact ov_last i u (by simpa using hi) hu (by rwa [show k + 1 + i = k + (i + 1) by omega]) (fun j u' hj hi' hu' => by have := h (j + 1) u' (by omega) (by simpa using hi') hu'; rwa [show k + 1 + j = k + (j + 1) by omega])

/-- The last word on a box. -/
def wrAt (b : Nat) : List (Nat × Bool × Box) → Option Box
  | [] => none
  | x :: l => match wrAt b l with
    | some B => some B
    | none => match Nat.beq x.1 b with
      | true => some x.2.2
      | false => none

theorem lk_applyB (b : Nat) : ∀ (ws : List (Nat × Bool × Box)) (bs : Bxs), lk b (applyB ws bs) = match wrAt b ws with | some B => some (true, B) | none => lk b bs
  | [], _ => rfl
  | x :: l, bs => by
    simp only [applyB, wrAt]
    rw [lk_applyB b l]
    cases wrAt b l with
    | some B => rfl
    | none =>
      simp only [lk_st]
      cases hb : Nat.beq x.1 b with
      | true => simp [Nat.eq_of_beq_eq_true hb]
      | false =>
        have : ¬ b = x.1 := fun h => by rw [h] at hb; simp at hb
        simp [this]

theorem wrAt_mem {b : Nat} : ∀ {ws : List (Nat × Bool × Box)} {B : Box}, wrAt b ws = some B → b ∈ ws.map (·.1)
  | [], _, h => by simp [wrAt] at h
  | x :: l, B, h => by
    simp only [wrAt] at h
    cases hl : wrAt b l with
    | some B' => exact List.mem_cons_of_mem _ (wrAt_mem hl)
    | none =>
      rw [hl] at h
      cases hb : Nat.beq x.1 b with
      | true => simp [Nat.eq_of_beq_eq_true hb]
      | false => rw [hb] at h; simp at h

theorem fresh_tmps : ∀ (ws : List (Nat × Bool × Box)) (s : St), freshWr ws s.boxes = true → (s.wrs ws).tmps = s.tmps ∧ ∀ b, killed ws b → lk b s.boxes = none
  | [], s, _ => ⟨rfl, fun b hb => by obtain ⟨B, hB⟩ := hb; simp at hB⟩
  | x :: l, s, h => by
    simp only [freshWr, Bool.and_eq_true, Bool.or_eq_true, Bool.not_eq_true', Option.isNone_iff_eq_none] at h
    obtain ⟨h1, h2⟩ := h
    have hw : s.wr1 x = { s with boxes := st' x.1 (true, x.2.2) s.boxes } := by
      unfold St.wr1
      split
      · rename_i B hx hB
        rcases h1 with h1 | h1
        · rw [hx] at h1; cases h1
        · simp [St.box, h1] at hB
      · rfl
    simp only [St.wrs]
    obtain ⟨q1, q2⟩ := fresh_tmps l (s.wr1 x) (by rw [hw]; exact h2)
    refine ⟨by rw [q1, hw], fun b hb => ?_⟩
    obtain ⟨B, hB⟩ := hb
    rcases List.mem_cons.1 hB with hB | hB
    · rcases h1 with h1 | h1
      · rw [← hB] at h1; simp at h1
      · rw [← hB] at h1; exact h1
    · have := q2 b ⟨B, hB⟩
      rw [hw] at this
      simp only [lk_st] at this
      split at this
      · simp at this
      · exact this

theorem memN_iff {x : Nat} : ∀ {l : List Nat}, memN x l = true ↔ x ∈ l
  | [] => by simp [memN]
  | y :: l => by
    simp only [memN, Bool.or_eq_true, List.mem_cons, memN_iff (l := l)]
    rw [Nat.beq_eq]

theorem memP_iff {x : Nat × Bool} : ∀ {l : List (Nat × Bool)}, memP x l = true ↔ x ∈ l
  | [] => by simp [memP]
  | y :: l => by
    simp only [memP, Bool.or_eq_true, Bool.and_eq_true, List.mem_cons, memP_iff (l := l), Nat.beq_eq, beq_iff_eq]
    rw [Prod.ext_iff]

theorem subP_iff : ∀ {l m : List (Nat × Bool)}, subP l m = true → ∀ x ∈ l, x ∈ m
  | [], _, _ => by simp
  | y :: l, m, h => by
    simp only [subP, Bool.and_eq_true] at h
    intro x hx
    rcases List.mem_cons.1 hx with rfl | hx
    · exact memP_iff.1 h.1
    · exact subP_iff h.2 x hx

theorem disj_spec {a b : Foot} (h : disj a b = true) :
    (∀ d, a.wt = some d → d ∉ b.rt ∧ b.wt ≠ some d) ∧ (∀ d, b.wt = some d → d ∉ a.rt) ∧ (∀ x ∈ a.wb, x ∉ b.rb ∧ x ∉ b.wb) ∧ (∀ x ∈ b.wb, x ∉ a.rb) := by
  have nm : ∀ {x : Nat} {l : List Nat}, memN x l = false → x ∉ l := fun hf hm => by rw [memN_iff.2 hm] at hf; cases hf
  simp only [disj, Bool.and_eq_true, List.all_eq_true, Bool.not_eq_true'] at h
  obtain ⟨⟨⟨h1, h2⟩, h3⟩, h4⟩ := h
  refine ⟨fun d hd => ?_, fun d hd => ?_, fun x hx => ⟨nm (h3 x hx).1, nm (h3 x hx).2⟩, fun x hx => nm (h4 x hx)⟩
  · rw [hd] at h1
    simp only [Bool.and_eq_true, Bool.not_eq_true'] at h1
    refine ⟨nm h1.1, fun hb => ?_⟩
    rw [hb] at h1
    simp at h1
  · rw [hd] at h2
    simp only [Bool.not_eq_true'] at h2
    exact nm h2

theorem nodup_unique : ∀ {ops : List Oper}, nodupN (dsts ops) = true → ∀ {i j : Nat} {o o' : Oper} {t : Nat}, ops[i]? = some o → ops[j]? = some o' → o.dst = some t → o'.dst = some t → i = j
  | [], _, i, j, o, o', t, hi, _, _, _ => by simp at hi
  | x :: l, h, i, j, o, o', t, hi, hj, ho, ho' => by
    have hmem : ∀ {k : Nat} {y : Oper}, l[k]? = some y → y.dst = some t → t ∈ dsts l := fun hk hy => List.mem_filterMap.2 ⟨_, List.mem_of_getElem? hk, hy⟩
    have hl : nodupN (dsts l) = true := by
      unfold dsts at h ⊢
      simp only [List.filterMap_cons] at h
      split at h
      · exact h
      · simp only [nodupN, Bool.and_eq_true] at h; exact h.2
    have hx : x.dst = some t → t ∉ dsts l := by
      intro hx hm
      unfold dsts at h hm
      simp only [List.filterMap_cons, hx, nodupN, Bool.and_eq_true, Bool.not_eq_true'] at h
      rw [memN_iff.2 hm] at h
      simp at h
    cases i with
    | zero =>
      simp only [List.getElem?_cons_zero, Option.some.injEq] at hi
      subst hi
      cases j with
      | zero => rfl
      | succ j => exact absurd (hmem (by simpa using hj) ho') (hx ho)
    | succ i =>
      cases j with
      | zero =>
        simp only [List.getElem?_cons_zero, Option.some.injEq] at hj
        subst hj
        exact absurd (hmem (by simpa using hi) ho) (hx ho')
      | succ j => exact congrArg (· + 1) (nodup_unique hl (i := i) (j := j) (by simpa using hi) (by simpa using hj) ho ho')

theorem find_dst {ops : List Oper} (h : nodupN (dsts ops) = true) {i : Nat} {o : Oper} {t : Nat} (hi : ops[i]? = some o) (ho : o.dst = some t) : ops.find? (dstIs t) = some o := by
  have hdst : ∀ y : Oper, dstIs t y = true ↔ y.dst = some t := by
    intro y
    unfold dstIs
    cases hy : y.dst with
    | none => simp
    | some d => simp [Nat.beq_eq]
  cases hf : ops.find? (dstIs t) with
  | none =>
    rw [List.find?_eq_none] at hf
    exact absurd ((hdst o).2 ho) (hf o (List.mem_of_getElem? hi))
  | some y =>
    have h1 := List.find?_some hf
    have h2 := List.mem_of_find?_eq_some hf
    obtain ⟨j, hj⟩ := List.mem_iff_getElem?.1 h2
    have := nodup_unique h hj hi ((hdst y).1 h1) ho
    subst this
    exact hj.symm.trans hi
end Go.Ev
