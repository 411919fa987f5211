/- Regions that have guards, or a draw: one operation more. -/
import Derived.Test.YtohodbfoeejbjaaEvRun2
set_option linter.unusedVariables false
set_option linter.unusedSimpArgs false
namespace Go.Ev

def uS (o : Oper) (x : St × Eff) : Nat → Option AV := fun t => if o.dst = some t then some x.2.av else none
def uB (x : St × Eff) : Nat → Option (Option (Bool × Box)) := fun b => (wrAt b x.2.wr).map fun B => some (true, B)
def uSs : List Oper → List (St × Eff) → List (Nat → Option AV)
  | o :: l, x :: r => uS o x :: uSs l r
  | _, _ => []
def uBs (r : List (St × Eff)) : List (Nat → Option (Option (Bool × Box))) := r.map uB

theorem uSs_get : ∀ {l : List Oper} {r : List (St × Eff)} {i : Nat} {o : Oper} {x : St × Eff}, l[i]? = some o → r[i]? = some x → (uSs l r)[i]? = some (uS o x)
  | [], _, _, _, _, h, _ => by simp at h
  | _ :: _, [], _, _, _, _, h => by simp at h
  | o :: l, x :: r, 0, _, _, h, k => by simp at h k; subst h; subst k; rfl
  | o :: l, x :: r, i + 1, _, _, h, k => by simp only [uSs, List.getElem?_cons_succ] at h k ⊢; exact uSs_get h k

theorem uSs_inv : ∀ {l : List Oper} {r : List (St × Eff)} {i : Nat} {u : Nat → Option AV}, (uSs l r)[i]? = some u → ∃ o x, l[i]? = some o ∧ r[i]? = some x ∧ u = uS o x
  | [], _, _, _, h => by simp [uSs] at h
  | _ :: _, [], _, _, h => by simp [uSs] at h
  | o :: l, x :: r, 0, _, h => by simp [uSs] at h; exact ⟨o, x, rfl, rfl, h.symm⟩
  | o :: l, x :: r, i + 1, _, h => by simp only [uSs, List.getElem?_cons_succ] at h ⊢; exact uSs_inv h

theorem uS_some {o : Oper} {x : St × Eff} {t : Nat} (h : uS o x t ≠ none) : o.dst = some t := by
  unfold uS at h
  split at h
  · assumption
  · exact absurd rfl h

theorem uB_some {x : St × Eff} {b : Nat} (h : uB x b ≠ none) : b ∈ x.2.wr.map (·.1) := by
  unfold uB at h
  cases hw : wrAt b x.2.wr with
  | none => rw [hw] at h; exact absurd rfl h
  | some B => exact wrAt_mem hw

theorem after_fresh {s : St} {o : Oper} {e : Eff} (h : freshWr e.wr s.boxes = true) (t : Nat) : (s.after o e).look t = if o.dst = some t then e.av else s.look t := by
  rw [look_after]
  have := (fresh_tmps e.wr s h).1
  unfold St.look
  rw [this]

/-- The region's own text. -/
structure Reg (C : Ctx) (ops : List Oper) (r : List (St × Eff)) (s0 sE : St) : Prop where
  len : r.length = ops.length
  eff : ∀ (i : Nat) (o : Oper) (x : St × Eff), ops[i]? = some o → r[i]? = some x → opEff C.τ C.Γ (o.dst.getD 0) o (x.1.args o) = some x.2
  fresh : ∀ (i : Nat) (o : Oper) (x : St × Eff), ops[i]? = some o → r[i]? = some x → freshWr x.2.wr x.1.boxes = true ∧ (o.guard = none ∨ x.2.wr = [])
  look : ∀ (i : Nat) (x : St × Eff) (t : Nat), r[i]? = some x → x.1.look t = ov (fun j => decide (j < i)) (uSs ops r) 0 s0.look t
  box : ∀ (i : Nat) (x : St × Eff) (b : Nat), r[i]? = some x → lk b x.1.boxes = ov (fun j => decide (j < i)) (uBs r) 0 (fun b => lk b s0.boxes) b
  lookE : ∀ t, sE.look t = ov (fun _ => true) (uSs ops r) 0 s0.look t
  boxE : ∀ b, lk b sE.boxes = ov (fun _ => true) (uBs r) 0 (fun b => lk b s0.boxes) b

theorem effs_reg (C : Ctx) : ∀ (l : List Oper) (s : St) (r : List (St × Eff)) (sE : St), effs C l s = some (r, sE) → effsOK l r = true →
    r.length = l.length ∧ (∀ (i : Nat) (o : Oper) (x : St × Eff), l[i]? = some o → r[i]? = some x → opEff C.τ C.Γ (o.dst.getD 0) o (x.1.args o) = some x.2) ∧
    (∀ (i : Nat) (o : Oper) (x : St × Eff), l[i]? = some o → r[i]? = some x → freshWr x.2.wr x.1.boxes = true ∧ (o.guard = none ∨ x.2.wr = [])) ∧
    (∀ (k i : Nat) (x : St × Eff) (t : Nat), r[i]? = some x → x.1.look t = ov (fun j => decide (j < k + i)) (uSs l r) k s.look t) ∧
    (∀ (k i : Nat) (x : St × Eff) (b : Nat), r[i]? = some x → lk b x.1.boxes = ov (fun j => decide (j < k + i)) (uBs r) k (fun b => lk b s.boxes) b) ∧
    (∀ (k t : Nat), sE.look t = ov (fun _ => true) (uSs l r) k s.look t) ∧ (∀ (k b : Nat), lk b sE.boxes = ov (fun _ => true) (uBs r) k (fun b => lk b s.boxes) b)
  | [], s, r, sE, h, _ => by
    simp only [effs, Option.some.injEq, Prod.mk.injEq] at h
    obtain ⟨rfl, rfl⟩ := h
    simp [uSs, uBs, ov]
  | o :: l, s, r, sE, h, hok => by
    simp only [effs] at h
    split at h
    · cases h
    rename_i e he
    split at h
    · cases h
    rename_i r' s' hr
    simp only [Option.some.injEq, Prod.mk.injEq] at h
    obtain ⟨rfl, rfl⟩ := h
    simp only [effsOK, Bool.and_eq_true, Bool.or_eq_true, Option.isNone_iff_eq_none, List.isEmpty_iff] at hok
    obtain ⟨⟨hf, hg⟩, hok⟩ := hok
    obtain ⟨h1, h2, h3, h4, h5, h6, h7⟩ := effs_reg C l _ r' s' hr hok
    have hlook : ∀ t, (s.after o e).look t = lay true (uS o (s, e) t) (s.look t) := by
      intro t
      rw [after_fresh hf]
      unfold uS
      by_cases hd : o.dst = some t
      · simp [hd, lay]
      · simp [hd, lay]
    have hbox : ∀ b, lk b (s.after o e).boxes = lay true (uB (s, e) b) (lk b s.boxes) := by
      intro b
      rw [boxes_after, lk_applyB]
      unfold uB
      simp only
      cases wrAt b e.wr <;> rfl
    refine ⟨by simp [h1], fun i o' x hi hx => ?_, fun i o' x hi hx => ?_, fun k i x t hx => ?_, fun k i x b hx => ?_, fun k t => ?_, fun k b => ?_⟩
    · cases i with
      | zero => simp at hi hx; subst hi; subst hx; exact he
      | succ i => exact h2 i o' x (by simpa using hi) (by simpa using hx)
    · cases i with
      | zero => simp at hi hx; subst hi; subst hx; exact ⟨hf, hg⟩
      | succ i => exact h3 i o' x (by simpa using hi) (by simpa using hx)
    · cases i with
      | zero =>
        simp at hx
        subst hx
        rw [ov_none (fun j u hj hu => by simp)]
      | succ i =>
        rw [h4 (k + 1) i x t (by simpa using hx)]
        simp only [uSs, ov]
        rw [show k + 1 + i = k + (i + 1) by omega]
        refine ov_congr ?_ (fun _ _ _ _ => rfl)
        rw [hlook, show decide (k < k + (i + 1)) = true by simp]
    · cases i with
      | zero =>
        simp at hx
        subst hx
        rw [ov_none (fun j u hj hu => by simp)]
      | succ i =>
        rw [h5 (k + 1) i x b (by simpa using hx)]
        simp only [uBs, List.map_cons, ov]
        rw [show k + 1 + i = k + (i + 1) by omega]
        refine ov_congr ?_ (fun _ _ _ _ => rfl)
        rw [hbox, show decide (k < k + (i + 1)) = true by simp]
    · rw [h6 (k + 1) t]
      simp only [uSs, ov]
      exact ov_congr (hlook t) (fun _ _ _ _ => rfl)
    · rw [h7 (k + 1) b]
      simp only [uBs, List.map_cons, ov]
      exact ov_congr (hbox b) (fun _ _ _ _ => rfl)

theorem Reg.of {C : Ctx} {l : List Oper} {s : St} {r : List (St × Eff)} {sE : St} (h : effs C l s = some (r, sE)) (k : effsOK l r = true) : Reg C l r s sE := by
  obtain ⟨h1, h2, h3, h4, h5, h6, h7⟩ := effs_reg C l s r sE h k
  refine ⟨h1, h2, h3, fun i x t hx => ?_, fun i x b hx => ?_, fun t => h6 0 t, fun b => h7 0 b⟩
  · have := h4 0 i x t hx; simpa using this
  · have := h5 0 i x b hx; simpa using this

def wnt (A : Array Oper) (o : Oper) (a : Act) : Bool := Region.wanted o (yielded A a.tmps)

theorem wnt_none {A : Array Oper} {o : Oper} {a : Act} (h : o.guard = none) : wnt A o a = true := by simp [wnt, Region.wanted, h]
theorem wnt_some {A : Array Oper} {o oj : Oper} {a : Act} {j d : Nat} {w : Bool} (h : o.guard = some (j, w)) (hj : A[j]? = some oj) (hd : oj.dst = some d) : wnt A o a = true ↔ a.tmps.getD d undef = .bool w := by
  simp only [wnt, Region.wanted, h, yielded, hj, Option.bind_some, hd]
  cases ht : a.tmps[d]? with
  | none => simp [ht, undef]
  | some v =>
    have : a.tmps.getD d undef = v := by simp [Array.getD_eq_getD_getElem?, ht]
    rw [this]
    cases v <;> simp

/-- The guards' own rules. -/
structure GOK (A : Array Oper) : Prop where
  nodup : nodupN (dsts A.toList) = true
  seen : ∀ o ∈ A.toList, guardOK A.toList A.toList.length o = true
  guard : ∀ (i : Nat) o j w, A[i]? = some o → o.guard = some (j, w) → j < i ∧ ∃ oj d, A[j]? = some oj ∧ oj.dst = some d

theorem GOK.of {A : Array Oper} (h : guardsOK A.toList = true) : GOK A := by
  simp only [guardsOK, Bool.and_eq_true, List.all_eq_true] at h
  obtain ⟨⟨h1, h2⟩, h3⟩ := h
  refine ⟨h1, h2, fun i o j w hi hg => ?_⟩
  have hm : (o, i) ∈ A.toList.zipIdx := by
    rw [List.mem_zipIdx_iff_getElem?]
    simpa using hi
  have := h3 _ hm
  simp only [hg, Bool.and_eq_true] at this
  obtain ⟨k1, k2⟩ := this
  refine ⟨by simpa [Nat.blt_eq] using k1, ?_⟩
  cases hj : A.toList[j]? with
  | none => rw [hj] at k2; simp at k2
  | some oj =>
    rw [hj] at k2
    cases hd : oj.dst with
    | none => simp [hd] at k2
    | some d => exact ⟨oj, d, by simpa using hj, hd⟩

/-- What holds once the operations of L have been carried out, in whatever order. -/
structure At (A : Array Oper) (r : List (St × Eff)) (s0 : St) (R : Ref) (a0 : Act) (L : Nat → Bool) (a : Act) (M : Mem) : Prop where
  mem : InvM R M
  box : ∀ b, lk b M.bs = ov L (uBs r) 0 (fun b => lk b s0.boxes) b
  skipped : ∀ (m : Nat) (o : Oper) (t : Nat), A[m]? = some o → o.dst = some t → L m = true → wnt A o a = false → a.tmps.getD t undef = undef
  slot : ∀ t : Nat, (∀ (m : Nat) (o : Oper), A[m]? = some o → o.dst = some t → L m = true → wnt A o a = true) → RelV M (ov L (uSs A.toList r) 0 s0.look t) (a.tmps.getD t undef)
  size : a.tmps.size = a0.tmps.size
  defers : a.defers = a0.defers
  out : ∀ t, (∀ o ∈ A.toList, o.dst ≠ some t) → a.tmps.getD t undef = a0.tmps.getD t undef

/-- Operation i may be carried out: all it leans on has been, and nothing that leans on it. -/
structure May (A : Array Oper) (r : List (St × Eff)) (L : Nat → Bool) (i : Nat) (f : Foot) : Prop where
  before : ∀ (j : Nat) (oj : Oper) (x : St × Eff), j < i → A[j]? = some oj → r[j]? = some x → disj (foot A.toList oj x.1 x.2) f = true ∨ L j = true
  behind : ∀ (j : Nat) (oj : Oper) (x : St × Eff), i < j → A[j]? = some oj → r[j]? = some x → disj f (foot A.toList oj x.1 x.2) = true ∨ L j = false
  self : L i = false

def Closed (A : Array Oper) (r : List (St × Eff)) (L : Nat → Bool) : Prop :=
  ∀ (i : Nat) (o : Oper) (x : St × Eff), A[i]? = some o → r[i]? = some x → L i = true → ∀ (j : Nat) (oj : Oper) (y : St × Eff), j < i → A[j]? = some oj → r[j]? = some y → disj (foot A.toList oj y.1 y.2) (foot A.toList o x.1 x.2) = true ∨ L j = true

def holdsCh (a : Act) (ch : List (Nat × Bool)) : Prop := ∀ x ∈ ch, a.tmps.getD x.1 undef = .bool x.2

section
variable {P : Program} {C : Ctx} {R : Ref} {A : Array Oper} {r : List (St × Eff)} {s0 sE : St} {a0 a : Act} {L : Nat → Bool} {M : Mem}

theorem Reg.get (G : Reg C A.toList r s0 sE) {i : Nat} {o : Oper} (h : A[i]? = some o) : ∃ x, r[i]? = some x := by
  have : i < A.toList.length := by
    have := (Array.getElem?_eq_some_iff.1 h).1
    simpa using this
  rw [← G.len] at this
  exact ⟨r[i], List.getElem?_eq_getElem this⟩

/-- The guards of an operation: they have been carried out, and the whole chain holds. -/
theorem chain_holds (K : GOK A) (G : Reg C A.toList r s0 sE) (H : At A r s0 R a0 L a M) (Cl : Closed A r L) : ∀ (n i : Nat) (o : Oper) (x : St × Eff), A[i]? = some o → r[i]? = some x →
    (∀ (j : Nat) (oj : Oper) (y : St × Eff), j < i → A[j]? = some oj → r[j]? = some y → disj (foot A.toList oj y.1 y.2) (foot A.toList o x.1 x.2) = true ∨ L j = true) → wnt A o a = true →
    ∀ z ∈ chain A.toList n o, a.tmps.getD z.1 undef = .bool z.2 ∧ ∃ m om, m < i ∧ A[m]? = some om ∧ om.dst = some z.1 ∧ L m = true ∧ wnt A om a = true
  | 0, i, o, x, _, _, _, _ => by simp [chain]
  | n + 1, i, o, x, hi, hx, hb, hw => by
    intro z hz
    simp only [chain] at hz
    cases hg : o.guard with
    | none => rw [hg] at hz; simp at hz
    | some jw =>
      obtain ⟨j, w⟩ := jw
      obtain ⟨hlt, oj, d, hj, hd⟩ := K.guard i o j w hi hg
      rw [hg] at hz
      have hj' : A.toList[j]? = some oj := by simpa using hj
      simp only [hj', hd] at hz
      have htd := (wnt_some hg hj hd).1 hw
      obtain ⟨y, hy⟩ := G.get hj
      have hL : L j = true := by
        rcases hb j oj y hlt hj hy with h | h
        · exfalso
          have := (disj_spec h).1 d (by simpa [foot] using hd)
          exact this.1 (by simp [foot, guardSlot, hg, hj', hd])
        · exact h
      have hwj : wnt A oj a = true := by
        cases hwj : wnt A oj a with
        | true => rfl
        | false =>
          have := H.skipped j oj d hj hd hL hwj
          rw [htd] at this
          simp [undef] at this
      rcases List.mem_cons.1 hz with rfl | hz
      · exact ⟨htd, j, oj, hlt, hj, hd, hL, hwj⟩
      · obtain ⟨h1, m, om, h2, h3⟩ := chain_holds K G H Cl n j oj y hj hy (Cl j oj y hj hy hL) hwj z hz
        exact ⟨h1, m, om, by omega, h3⟩

theorem holds_wnt (K : GOK A) {n i : Nat} {o : Oper} (hi : A[i]? = some o) (h : holdsCh a (chain A.toList (n + 1) o)) : wnt A o a = true := by
  cases hg : o.guard with
  | none => exact wnt_none hg
  | some jw =>
    obtain ⟨j, w⟩ := jw
    obtain ⟨hlt, oj, d, hj, hd⟩ := K.guard i o j w hi hg
    have hj' : A.toList[j]? = some oj := by simpa using hj
    refine (wnt_some hg hj hd).2 (h (d, w) ?_)
    simp [chain, hg, hj', hd]

/-- The slot that an operation of L has written. -/
theorem slot_of (K : GOK A) (L : Nat → Bool) {m : Nat} {o : Oper} {x : St × Eff} {t : Nat} (hm : A[m]? = some o) (hx : r[m]? = some x) (ht : o.dst = some t) (hL : L m = true) (f : Nat → AV) : ov L (uSs A.toList r) 0 f t = x.2.av := by
  refine ov_last m (uS o x) (uSs_get (by simpa using hm) hx) (by simp [uS, ht]) (by simpa using hL) (fun j u hj hu hut => ?_)
  obtain ⟨o', x', h1, h2, rfl⟩ := uSs_inv hu
  have := nodup_unique K.nodup (by simpa using hm) h1 ht (uS_some hut)
  omega

/-- What an operation reads is what the text's own state says. -/
theorem read_slot (G : Reg C A.toList r s0 sE) {i : Nat} {o : Oper} {x : St × Eff} (hi : A[i]? = some o) (hx : r[i]? = some x) (Y : May A r L i (foot A.toList o x.1 x.2)) {t : Nat} (ht : t ∈ (foot A.toList o x.1 x.2).rt) :
    ov L (uSs A.toList r) 0 s0.look t = x.1.look t := by
  rw [G.look i x t hx]
  refine ov_congr rfl (fun j u hj hu => ?_)
  obtain ⟨o', y, h1, h2, rfl⟩ := uSs_inv hj
  have hd := uS_some hu
  simp only [Nat.zero_add]
  have h1' : A[j]? = some o' := by simpa using h1
  rcases Nat.lt_trichotomy j i with hlt | heq | hgt
  · rw [show decide (j < i) = true by simpa using hlt]
    rcases Y.before j o' y hlt h1' h2 with h | h
    · exact absurd ht ((disj_spec h).1 t (by simpa [foot] using hd)).1
    · exact h
  · subst heq
    simp [Y.self]
  · rw [show decide (j < i) = false by simp; omega]
    rcases Y.behind j o' y hgt h1' h2 with h | h
    · exact absurd ht ((disj_spec h).2.1 t (by simpa [foot] using hd))
    · exact h

theorem read_box (G : Reg C A.toList r s0 sE) {i : Nat} {o : Oper} {x : St × Eff} (hi : A[i]? = some o) (hx : r[i]? = some x) (Y : May A r L i (foot A.toList o x.1 x.2)) {b : Nat} (hb : b ∈ (foot A.toList o x.1 x.2).rb ∨ b ∈ (foot A.toList o x.1 x.2).wb) :
    ov L (uBs r) 0 (fun b => lk b s0.boxes) b = lk b x.1.boxes := by
  rw [G.box i x b hx]
  refine ov_congr rfl (fun j u hj hu => ?_)
  simp only [uBs, List.getElem?_map, Option.map_eq_some_iff] at hj
  obtain ⟨y, h2, rfl⟩ := hj
  have hd := uB_some hu
  simp only [Nat.zero_add]
  have hj' : ∃ o', A[j]? = some o' := by
    have := (List.getElem?_eq_some_iff.1 h2).1
    rw [G.len] at this
    have hh : j < A.size := by simpa using this
    exact ⟨A[j], Array.getElem?_eq_getElem hh⟩
  obtain ⟨o', h1'⟩ := hj'
  have hmem : b ∈ (foot A.toList o' y.1 y.2).wb := by simpa [foot] using hd
  rcases Nat.lt_trichotomy j i with hlt | heq | hgt
  · rw [show decide (j < i) = true by simpa using hlt]
    rcases Y.before j o' y hlt h1' h2 with h | h
    · have := (disj_spec h).2.2.1 b hmem
      exact absurd hb (fun hb => hb.elim this.1 this.2)
    · exact h
  · subst heq
    simp [Y.self]
  · rw [show decide (j < i) = false by simp; omega]
    rcases Y.behind j o' y hgt h1' h2 with h | h
    · rcases hb with hb | hb
      · exact absurd hb ((disj_spec h).2.2.2 b hmem)
      · exact absurd hmem ((disj_spec h).2.2.1 b hb).2
    · exact h
end
end Go.Ev
