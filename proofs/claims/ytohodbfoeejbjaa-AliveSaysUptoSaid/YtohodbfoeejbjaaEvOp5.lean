/- Pieces, lengths, conversions, tests. -/
import Derived.Test.YtohodbfoeejbjaaEvOp4
set_option linter.unusedVariables false
set_option linter.unusedSimpArgs false
namespace Go.Ev
section
variable {P : Program} {τ : Tys} {R : Ref} {M : Mem}

/-- The values that are bounds. -/
def IntOpt (o : Option Int) (v : Option Value) : Prop :=
  match o, v with
  | none, none => True
  | some i, some v => ∃ k, v = .int k i
  | _, _ => False

theorem bounds_spec {lo hi mx : Option Operand} {ρ : Operand → Value} {l : List AV} {bs : Option Int × Option Int × Option Int} (h : bounds lo.isSome hi.isSome mx.isSome (l.map (argOf M.bs)) = some bs)
    (hr : RelL M l ((lo.toList ++ hi.toList ++ mx.toList).map ρ)) : IntOpt bs.1 (lo.map ρ) ∧ IntOpt bs.2.1 (hi.map ρ) ∧ IntOpt bs.2.2 (mx.map ρ) := by
  have one : ∀ {v : AV} {i : Int} {u : Value}, asIntAV v = some i → RelV M v u → ∃ k, u = .int k i := fun h1 h2 => let ⟨k, e, _⟩ := asIntAV_spec h1 h2; ⟨k, e⟩
  cases lo <;> cases hi <;> cases mx <;> simp only [Option.isSome_none, Option.isSome_some, Option.toList_none, Option.toList_some, List.nil_append, List.append_nil, List.map_nil, List.map_cons, List.singleton_append, List.cons_append] at h hr
  · match l, hr with
    | [], _ =>
      simp [bounds] at h; subst h; simp [IntOpt]
  · match l, hr with
    | [c], _ => simp [bounds] at h
  · match l, hr with
    | [b], hr =>
      simp only [RelL, and_true] at hr
      simp only [bounds, List.map_cons, List.map_nil, argOf] at h
      cases hb : asIntAV b with
      | none => simp [hb] at h
      | some j => simp [hb] at h; subst h; exact ⟨trivial, one hb hr, trivial⟩
  · match l, hr with
    | [b, c], hr =>
      simp only [RelL, and_true] at hr
      simp only [bounds, List.map_cons, List.map_nil, argOf] at h
      cases hb : asIntAV b with
      | none => simp [hb] at h
      | some j =>
        cases hc : asIntAV c with
        | none => simp [hb, hc] at h
        | some m => simp [hb, hc] at h; subst h; exact ⟨trivial, one hb hr.1, one hc hr.2⟩
  · match l, hr with
    | [b], hr =>
      simp only [RelL, and_true] at hr
      simp only [bounds, List.map_cons, List.map_nil, argOf] at h
      cases hb : asIntAV b with
      | none => simp [hb] at h
      | some j => simp [hb] at h; subst h; exact ⟨one hb hr, trivial, trivial⟩
  · match l, hr with
    | [b, c], _ => simp [bounds] at h
  · match l, hr with
    | [b, c], hr =>
      simp only [RelL, and_true] at hr
      simp only [bounds, List.map_cons, List.map_nil, argOf] at h
      cases hb : asIntAV b with
      | none => simp [hb] at h
      | some j =>
        cases hc : asIntAV c with
        | none => simp [hb, hc] at h
        | some m => simp [hb, hc] at h; subst h; exact ⟨one hb hr.1, one hc hr.2, trivial⟩
  · match l, hr with
    | [a, b, c], hr =>
      simp only [RelL, and_true] at hr
      simp only [bounds, List.map_cons, List.map_nil, argOf] at h
      cases ha : asIntAV a with
      | none => simp [ha] at h
      | some i =>
        cases hb : asIntAV b with
        | none => simp [ha, hb] at h
        | some j =>
          cases hc : asIntAV c with
          | none => simp [ha, hb, hc] at h
          | some m => simp [ha, hb, hc] at h; subst h; exact ⟨one ha hr.1, one hb hr.2.1, one hc hr.2.2⟩

/-- What 'piece' asks, in numbers. -/
def loOf (lo : Option Int) : Nat := match lo with | none => 0 | some i => i.toNat
def hiOf (hi : Option Int) (n : Nat) : Nat := match hi with | none => n | some j => j.toNat

theorem piece_list {α : Type} (l : List α) (lo hi : Option Int) : (piece l lo hi).1 = (l.take (hiOf hi l.length)).drop (loOf lo) := by
  cases lo <;> cases hi <;> simp [piece, loOf, hiOf]

theorem piece_ok {α : Type} {l : List α} {lo hi : Option Int} (h : ∀ p, (piece l lo hi).2 = some p → p) : loOf lo ≤ hiOf hi l.length ∧ hiOf hi l.length ≤ l.length ∧ (∀ i, lo = some i → 0 ≤ i) ∧ (∀ j, hi = some j → 0 ≤ j) := by
  cases lo with
  | none =>
    cases hi with
    | none => simp [loOf, hiOf]
    | some j =>
      have := h _ rfl
      simp [loOf, hiOf]; omega
  | some i =>
    cases hi with
    | none =>
      have := h _ rfl
      simp [loOf, hiOf]; omega
    | some j =>
      have := h _ rfl
      simp [loOf, hiOf]; omega

theorem sliceBounds_run {isSlice : Bool} {n c : Nat} {lo hi mx : Option Int} {vlo vhi vmx : Option Value} (h1 : IntOpt lo vlo) (h2 : IntOpt hi vhi) (h3 : IntOpt mx vmx) (hnc : n ≤ c) (a : loOf lo ≤ hiOf hi n) (b : hiOf hi n ≤ n) (c1 : ∀ i, lo = some i → 0 ≤ i) (c2 : ∀ j, hi = some j → 0 ≤ j)
    (c3 : ∀ m, mx = some m → hi.isSome = true ∧ 0 ≤ m ∧ (hiOf hi n : Int) ≤ m ∧ m ≤ c) (w : World) :
    (Instr.sliceBounds isSlice n c vlo vhi vmx).run P w = .ok (loOf lo, hiOf hi n, match mx with | none => c | some m => m.toNat) w := by
  have hb : ∀ {i : Int} {y : Nat} {k : IntKind} {code : BoundsCode}, 0 ≤ i → i ≤ y → (Instr.sliceBound (.int k i) y code).run P w = .ok i.toNat w := by
    intro i y k code h0 h1
    simp [Instr.sliceBound, asIntOf, h0, h1]
  cases lo with
  | none =>
    cases vlo with
    | some _ => exact h1.elim
    | none =>
      cases hi with
      | none =>
        cases vhi with
        | some _ => exact h2.elim
        | none =>
          cases mx with
          | some m => have := (c3 m rfl).1; simp at this
          | none =>
            cases vmx with
            | some _ => exact h3.elim
            | none => simp [Instr.sliceBounds, loOf, hiOf]
      | some j =>
        cases vhi with
        | none => exact h2.elim
        | some v =>
          obtain ⟨k, rfl⟩ := h2
          have j0 := c2 j rfl
          simp only [hiOf] at b
          cases mx with
          | none =>
            cases vmx with
            | some _ => exact h3.elim
            | none => simp [Instr.sliceBounds, loOf, hiOf, hb j0 (show j ≤ ((c : Nat) : Int) by omega)]
          | some m =>
            cases vmx with
            | none => exact h3.elim
            | some v =>
              obtain ⟨k', rfl⟩ := h3
              obtain ⟨_, m0, m1, m2⟩ := c3 m rfl
              simp only [hiOf] at m1
              simp [Instr.sliceBounds, loOf, hiOf, hb m0 m2, hb j0 (show j ≤ ((m.toNat : Nat) : Int) by omega)]
  | some i =>
    cases vlo with
    | none => exact h1.elim
    | some v =>
      obtain ⟨ki, rfl⟩ := h1
      have i0 := c1 i rfl
      simp only [loOf] at a
      cases hi with
      | none =>
        cases vhi with
        | some _ => exact h2.elim
        | none =>
          cases mx with
          | some m => have := (c3 m rfl).1; simp at this
          | none =>
            cases vmx with
            | some _ => exact h3.elim
            | none =>
              simp only [hiOf] at a
              simp [Instr.sliceBounds, loOf, hiOf, hb i0 (show i ≤ ((n : Nat) : Int) by omega)]
      | some j =>
        cases vhi with
        | none => exact h2.elim
        | some v =>
          obtain ⟨k, rfl⟩ := h2
          have j0 := c2 j rfl
          simp only [hiOf] at a b
          cases mx with
          | none =>
            cases vmx with
            | some _ => exact h3.elim
            | none => simp [Instr.sliceBounds, loOf, hiOf, hb j0 (show j ≤ ((c : Nat) : Int) by omega), hb i0 (show i ≤ ((j.toNat : Nat) : Int) by omega)]
          | some m =>
            cases vmx with
            | none => exact h3.elim
            | some v =>
              obtain ⟨k', rfl⟩ := h3
              obtain ⟨_, m0, m1, m2⟩ := c3 m rfl
              simp only [hiOf] at m1
              simp [Instr.sliceBounds, loOf, hiOf, hb m0 m2, hb j0 (show j ≤ ((m.toNat : Nat) : Int) by omega), hb i0 (show i ≤ ((j.toNat : Nat) : Int) by omega)]

theorem encL_split {α : Type} {f : α → List Value → Prop} {n : Nat} (hn : ∀ x c, f x c → c.length = n) : ∀ (k : Nat) {xs : List α} {cs : List Value}, encL f xs cs → encL f (xs.take k) (cs.take (k * n)) ∧ encL f (xs.drop k) (cs.drop (k * n))
  | 0, xs, cs, h => by simp [encL]; exact h
  | k + 1, [], cs, h => by rw [show cs = [] from h]; simp [encL]
  | k + 1, x :: xs, cs, ⟨c, d, e, h1, h2⟩ => by
    obtain ⟨q1, q2⟩ := encL_split hn k h2
    have hl := hn _ _ h1
    have e1 : (k + 1) * n = c.length + k * n := by rw [hl, Nat.add_mul, Nat.one_mul, Nat.add_comm]
    rw [e, e1]
    refine ⟨⟨c, d.take (k * n), ?_, h1, q1⟩, ?_⟩
    · simp [List.take_append]
      rw [List.take_of_length_le (by omega)]
    · simp only [List.drop_succ_cons]
      rw [show (c ++ d).drop (c.length + k * n) = d.drop (k * n) from by simp]
      exact q2
end
end Go.Ev
