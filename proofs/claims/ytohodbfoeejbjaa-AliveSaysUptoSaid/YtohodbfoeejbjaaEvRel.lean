/- Abstract values and boxes, held against the machine's. -/
import Derived.Test.YtohodbfoeejbjaaEvTy
set_option linter.unusedVariables false
namespace Go.Ev

def blkOf : Value → Option Nat
  | .pointer (some a) => some a.block
  | .slice (some a) _ _ => some a.block
  | _ => none

abbrev Bxs := List (Nat × Bool × Box)

/-- What is fixed: the world in which it began; the blocks that were one's own then; what was stable. -/
structure Ref where
  w0 : World
  own : Nat → Prop
  S0 : Stab

def Ref.new (R : Ref) (k : Nat) : Prop := R.w0.heap.size ≤ k ∨ R.own k

structure Mem where
  w : World
  S : Stab
  β : Nat → Value
  bs : Bxs

def okPath : Box → GTy → List PStep → Prop
  | .var g' _, g, p => g' = g ∧ inB g p
  | .row _ h xs _, g, p => g = .arr 0 h ∧ ∃ i q, p = .idx i :: q ∧ i < xs.length ∧ inB h q

def isRow : Box → Prop
  | .row .. => True
  | _ => False

mutual
def RelV (M : Mem) : AV → Value → Prop
  | .undef, _ => True
  | .cst v, u => u = v
  | .val g x, u => ∃ cs, Enc M.w M.S g x cs ∧ u = toVal g cs
  | .ptr b g p, u => ∃ blk d B, lk b M.bs = some (d, B) ∧ okPath B g p ∧ blkOf (M.β b) = some blk ∧ u = .pointer (some ⟨blk, offs g p, none⟩)
  | .ref g x, u => ∃ blk off cs, Enc M.w M.S g x cs ∧ (∀ (j : Nat) v, cs[j]? = some v → M.w.cell? ⟨blk, off + j, none⟩ = some v ∧ M.S blk (off + j)) ∧ u = .pointer (some ⟨blk, off, none⟩)
  | .tip b, u => (∃ d B, lk b M.bs = some (d, B) ∧ isRow B) ∧ u = M.β b
  | .tup l, u => ∃ vs, u = .tuple vs ∧ RelL M l vs.toList
  | .clo f l, u => ∃ vs, u = .func (.func f) #[] vs ∧ RelL M l vs.toList
def RelL (M : Mem) : List AV → List Value → Prop
  | [], [] => True
  | v :: l, u :: us => RelV M v u ∧ RelL M l us
  | _, _ => False
end

def RelB (R : Ref) (w : World) (S : Stab) (v : Value) : Box → Prop
  | .var g x => ∃ blk cs e, v = .pointer (some ⟨blk, 0, none⟩) ∧ w.heap[blk]? = some (.cells cs e (0, 0)) ∧ Enc w S g x cs.toList ∧ (∀ o, ¬ S blk o) ∧ R.new blk
  | .row e g xs fz => ∃ cs, w.ownsRow 0 e (ncell g) v xs.length cs ∧ encL (Enc w S g) xs cs ∧ xs.length * lbytes g ≤ maxRow ∧ xs.length ≤ maxRow ∧ 0 < ncell g ∧
      ∀ blk, blkOf v = some blk → R.new blk ∧ ∀ o, S blk o → fz = true ∧ o < xs.length * ncell g

structure InvM (R : Ref) (M : Mem) : Prop where
  os : M.w.os = R.w0.os
  tape : M.w.tape = R.w0.tape
  output : M.w.output = R.w0.output
  size : R.w0.heap.size ≤ M.w.heap.size
  frame : ∀ k, k < R.w0.heap.size → ¬ R.own k → M.w.heap[k]? = R.w0.heap[k]?
  old : Keeps R.S0 M.S R.w0 M.w
  here : ∀ b o, M.S b o → (R.S0 b o ∨ R.new b) ∧ b < M.w.heap.size
  boxes : ∀ b d B, lk b M.bs = some (d, B) → RelB R M.w M.S (M.β b) B
  sep : ∀ b c d B d' B', b ≠ c → lk b M.bs = some (d, B) → lk c M.bs = some (d', B') → ∀ k, blkOf (M.β b) = some k → blkOf (M.β c) ≠ some k

def Box.le (B B' : Box) : Prop := (∀ g p, okPath B g p → okPath B' g p) ∧ (isRow B → isRow B')

theorem Box.le_refl (B : Box) : Box.le B B := ⟨fun _ _ h => h, fun h => h⟩
theorem Box.le.trans {A B C : Box} (h : Box.le A B) (k : Box.le B C) : Box.le A C := ⟨fun g p x => k.1 g p (h.1 g p x), fun x => k.2 (h.2 x)⟩

/-- From one memory to a later one: all that does not point to a box of K stays. -/
structure Step (M M' : Mem) (K : Nat → Prop) : Prop where
  keeps : Keeps M.S M'.S M.w M'.w
  boxes : ∀ b d B, lk b M.bs = some (d, B) → ¬ K b → ∃ d' B', lk b M'.bs = some (d', B') ∧ M'.β b = M.β b ∧ Box.le B B'

theorem Step.refl (M : Mem) (K : Nat → Prop) : Step M M K := ⟨Keeps.refl _ _, fun b d B h _ => ⟨d, B, h, rfl, Box.le_refl B⟩⟩
theorem Step.trans {M M' M'' : Mem} {K K' : Nat → Prop} (h : Step M M' K) (k : Step M' M'' K') : Step M M'' (fun b => K b ∨ K' b) :=
  ⟨h.keeps.trans k.keeps, fun b d B hb hK => by
    obtain ⟨d1, B1, h1, h2, h3⟩ := h.boxes b d B hb (fun x => hK (.inl x))
    obtain ⟨d2, B2, k1, k2, k3⟩ := k.boxes b d1 B1 h1 (fun x => hK (.inr x))
    exact ⟨d2, B2, k1, k2.trans h2, h3.trans k3⟩⟩
theorem Step.mono {M M' : Mem} {K K' : Nat → Prop} (h : Step M M' K) (hk : ∀ b, K b → K' b) : Step M M' K' :=
  ⟨h.keeps, fun b d B hb hK => h.boxes b d B hb (fun x => hK (hk b x))⟩

mutual
theorem RelV.step {M M' : Mem} {K : Nat → Prop} (s : Step M M' K) : ∀ {v : AV} {u : Value}, RelV M v u → (∀ b, K b → v.has b = false) → RelV M' v u
  | .undef, _, _, _ => by simp [RelV]
  | .cst _, _, h, _ => by simpa [RelV] using h
  | .val _ _, _, h, _ => by
    simp only [RelV] at h ⊢
    obtain ⟨cs, h1, h2⟩ := h
    exact ⟨cs, h1.keeps s.keeps, h2⟩
  | .ptr b g p, _, h, hK => by
    simp only [RelV] at h ⊢
    obtain ⟨blk, d, B, h1, h2, h3, h4⟩ := h
    obtain ⟨d', B', k1, k2, k3⟩ := s.boxes b d B h1 (fun hb => by have := hK b hb; simp [AV.has] at this)
    exact ⟨blk, d', B', k1, k3.1 _ _ h2, by rw [k2]; exact h3, h4⟩
  | .ref g x, _, h, _ => by
    simp only [RelV] at h ⊢
    obtain ⟨blk, off, cs, h1, h2, h3⟩ := h
    exact ⟨blk, off, cs, h1.keeps s.keeps, fun j v hv => ⟨((s.keeps _ _ (h2 j v hv).2).2).trans (h2 j v hv).1, (s.keeps _ _ (h2 j v hv).2).1⟩, h3⟩
  | .tip b, _, h, hK => by
    simp only [RelV] at h ⊢
    obtain ⟨⟨d, B, h1, h2⟩, h3⟩ := h
    obtain ⟨d', B', k1, k2, k3⟩ := s.boxes b d B h1 (fun hb => by have := hK b hb; simp [AV.has] at this)
    exact ⟨⟨d', B', k1, k3.2 h2⟩, by rw [k2]; exact h3⟩
  | .tup l, _, h, hK => by
    simp only [RelV] at h ⊢
    obtain ⟨vs, h1, h2⟩ := h
    exact ⟨vs, h1, RelL.step s h2 (fun b hb => by simpa [AV.has] using hK b hb)⟩
  | .clo f l, _, h, hK => by
    simp only [RelV] at h ⊢
    obtain ⟨vs, h1, h2⟩ := h
    exact ⟨vs, h1, RelL.step s h2 (fun b hb => by simpa [AV.has] using hK b hb)⟩
theorem RelL.step {M M' : Mem} {K : Nat → Prop} (s : Step M M' K) : ∀ {l : List AV} {us : List Value}, RelL M l us → (∀ b, K b → AV.hasL b l = false) → RelL M' l us
  | [], [], _, _ => by simp [RelL]
  | v :: l, u :: us, h, hK => by
    simp only [RelL] at h ⊢
    refine ⟨RelV.step s h.1 (fun b hb => ?_), RelL.step s h.2 (fun b hb => ?_)⟩
    · have := hK b hb; simp only [AV.hasL, Bool.or_eq_false_iff] at this; exact this.1
    · have := hK b hb; simp only [AV.hasL, Bool.or_eq_false_iff] at this; exact this.2
  | [], _ :: _, h, _ => by simp [RelL] at h
  | _ :: _, [], h, _ => by simp [RelL] at h
end

theorem RelV.steps {M M' : Mem} (s : Step M M' (fun _ => False)) {v : AV} {u : Value} (h : RelV M v u) : RelV M' v u := h.step s (fun _ hb => hb.elim)
theorem RelL.steps {M M' : Mem} (s : Step M M' (fun _ => False)) {l : List AV} {us : List Value} (h : RelL M l us) : RelL M' l us := h.step s (fun _ hb => hb.elim)

theorem RelL.length {M : Mem} : ∀ {l : List AV} {us : List Value}, RelL M l us → l.length = us.length
  | [], [], _ => rfl
  | v :: l, u :: us, h => by simp only [RelL] at h; simp [RelL.length h.2]
  | [], _ :: _, h => by simp [RelL] at h
  | _ :: _, [], h => by simp [RelL] at h

theorem RelL.get {M : Mem} : ∀ {l : List AV} {us : List Value} (i : Nat) {v : AV}, RelL M l us → l[i]? = some v → ∃ u, us[i]? = some u ∧ RelV M v u
  | v :: l, u :: us, 0, w, h, hw => by simp only [RelL] at h; simp at hw; subst hw; exact ⟨u, rfl, h.1⟩
  | v :: l, u :: us, i + 1, w, h, hw => by
    simp only [RelL] at h
    obtain ⟨u', h1, h2⟩ := RelL.get i h.2 (by simpa using hw)
    exact ⟨u', by simpa using h1, h2⟩
  | [], _, _, _, _, hw => by simp at hw
  | _ :: _, [], _, _, h, _ => by simp [RelL] at h

/-! Lists by number -/

theorem lk_st_same {α : Type} (k : Nat) (v : α) : ∀ l : List (Nat × α), lk k (st' k v l) = some v
  | [] => by simp [st', lk]
  | (j, u) :: l => by
    simp only [st']
    split
    · simp [lk]
    · rename_i h; simp only [lk, h]; exact lk_st_same k v l

theorem lk_st_other {α : Type} (k j : Nat) (v : α) (h : j ≠ k) : ∀ l : List (Nat × α), lk j (st' k v l) = lk j l
  | [] => by
    have : Nat.beq k j = false := by cases hh : Nat.beq k j with | false => rfl | true => exact absurd (Nat.eq_of_beq_eq_true hh).symm h
    simp [st', lk, this]
  | (i, u) :: l => by
    simp only [st']
    split
    · rename_i hi
      have hik := Nat.eq_of_beq_eq_true hi
      subst hik
      have : Nat.beq i j = false := by cases hh : Nat.beq i j with | false => rfl | true => exact absurd (Nat.eq_of_beq_eq_true hh).symm h
      simp [lk, this]
    · simp only [lk]; rw [lk_st_other k j v h l]

theorem lk_st {α : Type} (k j : Nat) (v : α) (l : List (Nat × α)) : lk j (st' k v l) = if j = k then some v else lk j l := by
  split
  · rename_i h; subst h; exact lk_st_same j v l
  · rename_i h; exact lk_st_other k j v h l
end Go.Ev
