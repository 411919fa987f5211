/- Forks. -/
import Derived.Scope
import Derived.Test.YtohodbfoeejbjaaDoorProg
import Derived.KernelRfl
import Derived.Test.YtohodbfoeejbjaaDoorTextValidPairs3

set_option linter.unusedVariables false
set_option linter.unusedSimpArgs false
namespace Go.Ev

theorem lk_marks (f : Nat → Bool → Bool) (b : Nat) : ∀ l : Bxs, lk b (l.map fun (x : Nat × Bool × Box) => (x.1, f x.1 x.2.1, x.2.2)) = (lk b l).map fun y => (f b y.1, y.2)
  | [] => rfl
  | (j, d, B) :: l => by
    have ih := lk_marks f b l
    simp only [List.map_cons, lk]
    cases hb : Nat.beq j b with
    | true => rw [Nat.eq_of_beq_eq_true hb]; rfl
    | false => exact ih

theorem clean_boxes (s : St) (b : Nat) : lk b s.clean.boxes = (lk b s.boxes).map fun y => (false, y.2) := lk_marks (fun _ _ => false) b s.boxes
theorem remark_boxes (s old : St) (b : Nat) : lk b (s.remark old).boxes = (lk b s.boxes).map fun y => (y.1 || (match lk b old.boxes with | some (d', _) => d' | none => true), y.2) :=
  lk_marks (fun b d => d || (match lk b old.boxes with | some (d', _) => d' | none => true)) b s.boxes

/-- A box told with less. -/
def Box.weak (B Z : Box) : Prop :=
  match B, Z with
  | .var g x, .var h y => ∃ e : g = h, e ▸ x = y
  | .row t g a f, .row u h b f' => t = u ∧ (∃ e : g = h, e ▸ a = b) ∧ (f = true → f' = true)
  | _, _ => False

theorem Box.weak_refl (B : Box) : Box.weak B B := by
  cases B with
  | var g x => exact ⟨rfl, rfl⟩
  | row t g a f => exact ⟨rfl, ⟨rfl, rfl⟩, id⟩

theorem RelB.weak {R : Ref} {w : World} {S : Stab} {v : Value} {B Z : Box} (h : RelB R w S v B) (k : Box.weak B Z) : RelB R w S v Z := by
  cases B with
  | var g x =>
    cases Z with
    | var h' y =>
      obtain ⟨e, k⟩ := k
      subst e
      simp only at k
      subst k
      exact h
    | row _ _ _ _ => exact k.elim
  | row t g a f =>
    cases Z with
    | var _ _ => exact k.elim
    | row u h' b f' =>
      obtain ⟨e1, ⟨e2, k⟩, k2⟩ := k
      subst e1
      subst e2
      simp only at k
      subst k
      obtain ⟨cs, h1, h2, h3, h4, h5, h6⟩ := h
      exact ⟨cs, h1, h2, h3, h4, h5, fun blk hb => ⟨(h6 blk hb).1, fun o ho => ⟨k2 ((h6 blk hb).2 o ho).1, ((h6 blk hb).2 o ho).2⟩⟩⟩

theorem Box.weak.le {B Z : Box} (k : Box.weak B Z) : Box.le B Z := by
  cases B with
  | var g x =>
    cases Z with
    | var h' y =>
      obtain ⟨e, k⟩ := k
      subst e
      exact ⟨fun g p h => h, fun h => h⟩
    | row _ _ _ _ => exact k.elim
  | row t g a f =>
    cases Z with
    | var _ _ => exact k.elim
    | row u h' b f' =>
      obtain ⟨e1, ⟨e2, k⟩, k2⟩ := k
      subst e1
      subst e2
      simp only at k
      subst k
      exact ⟨fun g p h => h, fun h => h⟩

/-- Fewer boxes, told with less. -/
theorem InvM.weak {R : Ref} {M : Mem} (I : InvM R M) {bs : Bxs} (h : ∀ b d Z, lk b bs = some (d, Z) → ∃ d' B, lk b M.bs = some (d', B) ∧ Box.weak B Z) : InvM R { M with bs := bs } :=
  ⟨I.os, I.tape, I.output, I.size, I.frame, I.old, I.here, fun b d Z hb => by
    obtain ⟨d', B, h1, h2⟩ := h b d Z hb
    exact (I.boxes b d' B h1).weak h2, fun b c d Z d' Z' hne hb hc => by
    obtain ⟨d1, B1, h1, _⟩ := h b d Z hb
    obtain ⟨d2, B2, h2, _⟩ := h c d' Z' hc
    exact I.sep b c d1 B1 d2 B2 hne h1 h2⟩

theorem live_has {bs : Bxs} {v : AV} (h : live bs v = true) : ∀ b, lk b bs = none → v.has b = false := by
  intro b hb
  cases v with
  | ptr c g p =>
    simp only [AV.has]
    cases hh : Nat.beq c b with
    | false => rfl
    | true =>
      have := Nat.eq_of_beq_eq_true hh
      subst this
      simp [live, hb] at h
  | tip c =>
    simp only [AV.has]
    cases hh : Nat.beq c b with
    | false => rfl
    | true =>
      have := Nat.eq_of_beq_eq_true hh
      subst this
      simp [live, hb] at h
  | undef => simp [live] at h
  | tup l => simp [live] at h
  | clo f l => simp [live] at h
  | cst _ => rfl
  | val _ _ => rfl
  | ref _ _ => rfl

theorem RelV.weak {M : Mem} {bs : Bxs} (h : ∀ b d Z, lk b bs = some (d, Z) → ∃ d' B, lk b M.bs = some (d', B) ∧ Box.weak B Z) {v : AV} {u : Value} (hr : RelV M v u) (hl : live bs v = true) : RelV { M with bs := bs } v u := by
  have st : Step M { M with bs := bs } (fun b => lk b bs = none) := by
   refine ⟨Keeps.refl _ _, fun b d B hb hK => ?_⟩
   cases hz : lk b bs with
   | none => exact absurd hz hK
   | some y =>
     obtain ⟨d', Z⟩ := y
     obtain ⟨d1, B1, h1, h2⟩ := h b d' Z hz
     rw [h1] at hb
     simp only [Option.some.injEq, Prod.mk.injEq] at hb
     obtain ⟨rfl, rfl⟩ := hb
     exact ⟨d', Z, rfl, rfl, h2.le⟩
  exact hr.step st (live_has hl)

section
variable {R : Ref} {s s' : St} {a a' : Act} {w : World}

/-- Other marks. -/
theorem IsSt.marks (h : IsSt R s a w) (ht : ∀ t, s'.look t = s.look t) (hb : ∀ b, (lk b s'.boxes).map (·.2) = (lk b s.boxes).map (·.2)) : IsSt R s' a w := by
  obtain ⟨M, hM, e, I, hr⟩ := h
  have hw : ∀ b d Z, lk b s'.boxes = some (d, Z) → ∃ d' B, lk b M.bs = some (d', B) ∧ Box.weak B Z := by
    intro b d Z hz
    have := hb b
    rw [hz] at this
    cases hl : lk b s.boxes with
    | none => rw [hl] at this; simp at this
    | some y =>
      rw [hl] at this
      simp only [Option.map_some, Option.some.injEq] at this
      exact ⟨y.1, y.2, by rw [e, hl], this ▸ Box.weak_refl _⟩
  refine ⟨{ M with bs := s'.boxes }, hM, rfl, I.weak hw, fun t => ?_⟩
  rw [ht]
  have st : Step M { M with bs := s'.boxes } (fun _ => False) := by
    refine ⟨Keeps.refl _ _, fun b d B hB _ => ?_⟩
    have := hb b
    rw [e] at hB
    rw [hB] at this
    cases hl : lk b s'.boxes with
    | none => rw [hl] at this; simp at this
    | some y =>
      rw [hl] at this
      simp only [Option.map_some, Option.some.injEq] at this
      exact ⟨y.1, y.2, rfl, rfl, this ▸ Box.le_refl _⟩
  exact (hr t).steps st

theorem IsSt.clean (h : IsSt R s a w) : IsSt R s.clean a w := h.marks (fun _ => rfl) (fun b => by rw [clean_boxes]; cases lk b s.boxes <;> rfl)
theorem IsSt.remark (h : IsSt R s a w) (old : St) : IsSt R (s.remark old) a w := h.marks (fun _ => rfl) (fun b => by rw [remark_boxes]; cases lk b s.boxes <;> rfl)

theorem Apart.remark {W : Nat → Prop} (h : Apart W s.clean a s' a') : Apart W s a (s'.remark s) a' := by
  refine ⟨h.size, h.defers, h.tmps, h.look, fun b B hb => ?_⟩
  rw [remark_boxes] at hb
  cases hl : lk b s'.boxes with
  | none => rw [hl] at hb; simp at hb
  | some y =>
    rw [hl] at hb
    simp only [Option.map_some, Option.some.injEq, Prod.mk.injEq, Bool.or_eq_false_iff] at hb
    obtain ⟨⟨h1, h2⟩, h3⟩ := hb
    have := h.boxes b B (by rw [hl]; obtain ⟨y1, y2⟩ := y; simp only at h1 h3; rw [h1, h3])
    rw [clean_boxes] at this
    cases hs : lk b s.boxes with
    | none => rw [hs] at this; simp at this
    | some z =>
      rw [hs] at this h2
      obtain ⟨z1, z2⟩ := z
      simp only [Option.map_some, Option.some.injEq, Prod.mk.injEq, true_and] at this h2
      rw [h2, this]

theorem mergeBox_weak {x : Bool} {A B Z : Box} (h : mergeBox x A B = some Z) : Box.weak (if x then A else B) Z := by
  cases A with
  | var g p =>
    cases B with
    | row _ _ _ _ => simp [mergeBox] at h
    | var g' q =>
      simp only [mergeBox] at h
      split at h
      · rename_i e _
        subst e
        simp only [Option.some.injEq] at h
        subst h
        cases x <;> exact ⟨rfl, rfl⟩
      · cases h
  | row t g p f =>
    cases B with
    | var _ _ => simp [mergeBox] at h
    | row u g' q f' =>
      simp only [mergeBox] at h
      split at h
      · rename_i e1 e2 c1 c2
        clear c1 c2
        subst e1
        subst e2
        simp only [Option.some.injEq] at h
        subst h
        cases x
        · exact ⟨rfl, ⟨rfl, rfl⟩, fun hf => by simp [hf]⟩
        · exact ⟨rfl, ⟨rfl, rfl⟩, fun hf => by simp [hf]⟩
      · cases h

theorem mergeBoxes_spec {x : Bool} {sb m : Bxs} {b : Nat} : ∀ {l r : Bxs}, mergeBoxes x sb m l = some r → ∀ {d Z}, lk b r = some (d, Z) →
    ∃ da Ba db Bb, lk b l = some (da, Ba) ∧ lk b m = some (db, Bb) ∧ ((d = false ∧ da = false ∧ db = false ∧ ∃ d0, lk b sb = some (d0, Z)) ∨ (d = true ∧ mergeBox x Ba Bb = some Z))
  | [], r, h, d, Z, hz => by
    simp only [mergeBoxes, Option.some.injEq] at h
    subst h
    simp [lk] at hz
  | (c, da, Ba) :: l, r, h, d, Z, hz => by
    simp only [mergeBoxes] at h
    cases hm : lk c m with
    | none =>
      rw [hm] at h
      simp only at h
      obtain ⟨da', Ba', db, Bb, h1, h2, h3⟩ := mergeBoxes_spec h hz
      have hne : Nat.beq c b = false := by
        cases hb : Nat.beq c b with
        | false => rfl
        | true => rw [Nat.eq_of_beq_eq_true hb] at hm; rw [hm] at h2; cases h2
      exact ⟨da', Ba', db, Bb, by simp only [lk, hne]; exact h1, h2, h3⟩
    | some y =>
      obtain ⟨db, Bb⟩ := y
      rw [hm] at h
      simp only at h
      cases hd : (da || db) with
      | false =>
        rw [hd] at h
        simp only [Bool.or_eq_false_iff] at hd
        simp only at h
        split at h
        · rename_i d0 Z0 r' hs hr
          simp only [Option.some.injEq] at h
          subst h
          simp only [lk] at hz
          cases hb : Nat.beq c b with
          | true =>
            rw [hb] at hz
            have := Nat.eq_of_beq_eq_true hb
            subst this
            simp only [Option.some.injEq, Prod.mk.injEq] at hz
            obtain ⟨rfl, rfl⟩ := hz
            exact ⟨da, Ba, db, Bb, by simp [lk], hm, .inl ⟨rfl, hd.1, hd.2, d0, hs⟩⟩
          | false =>
            rw [hb] at hz
            obtain ⟨da', Ba', db', Bb', h1, h2, h3⟩ := mergeBoxes_spec hr hz
            exact ⟨da', Ba', db', Bb', by simp only [lk, hb]; exact h1, h2, h3⟩
        · cases h
      | true =>
        rw [hd] at h
        simp only at h
        split at h
        · rename_i Z0 r' hs hr
          simp only [Option.some.injEq] at h
          subst h
          simp only [lk] at hz
          cases hb : Nat.beq c b with
          | true =>
            rw [hb] at hz
            have := Nat.eq_of_beq_eq_true hb
            subst this
            simp only [Option.some.injEq, Prod.mk.injEq] at hz
            obtain ⟨rfl, rfl⟩ := hz
            exact ⟨da, Ba, db, Bb, by simp [lk], hm, .inr ⟨rfl, hs⟩⟩
          | false =>
            rw [hb] at hz
            obtain ⟨da', Ba', db', Bb', h1, h2, h3⟩ := mergeBoxes_spec hr hz
            exact ⟨da', Ba', db', Bb', by simp only [lk, hb]; exact h1, h2, h3⟩
        · cases h

theorem lk_append {α : Type} (t : Nat) : ∀ l m : List (Nat × α), lk t (l ++ m) = match lk t l with | some v => some v | none => lk t m
  | [], m => rfl
  | (j, v) :: l, m => by
    simp only [List.cons_append, lk]
    cases Nat.beq j t with
    | true => rfl
    | false => exact lk_append t l m

theorem lk_newTmps {x : Bool} {bs : Bxs} {sa sb : St} {t : Nat} : ∀ W : List Nat, lk t (newTmps x bs sa sb W) = if memN t W = true then some (match live bs (mergeAV x (sa.look t) (sb.look t)) with | true => mergeAV x (sa.look t) (sb.look t) | false => .undef) else none
  | [] => by simp [newTmps, memN, lk]
  | j :: W => by
    simp only [newTmps, lk, memN]
    cases hb : Nat.beq j t with
    | true =>
      have := Nat.eq_of_beq_eq_true hb
      subst this
      cases hl : live bs (mergeAV x (sa.look j) (sb.look j)) <;> simp [hl]
    | false =>
      have hb' : Nat.beq t j = false := by
        cases hh : Nat.beq t j with
        | false => rfl
        | true => rw [Nat.eq_of_beq_eq_true hh] at hb; simp at hb
      simp only [lk_newTmps W, hb', Bool.false_or]

theorem lk_mergeTmps {bs : Bxs} {W : List Nat} {sa sb : St} {t : Nat} : ∀ l : List (Nat × AV), lk t (mergeTmps bs W sa sb l) = (lk t l).map fun v => match memN t W || isUndef (sa.look t) || isUndef (sb.look t) || !(live bs v) with | true => AV.undef | false => v
  | [] => rfl
  | (j, v) :: l => by
    simp only [mergeTmps, lk]
    cases hb : Nat.beq j t with
    | true =>
      have := Nat.eq_of_beq_eq_true hb
      subst this
      rfl
    | false => exact lk_mergeTmps l

theorem mergeAV_rel {M : Mem} {x : Bool} {va vb : AV} {u : Value} (h : RelV M (if x then va else vb) u) : RelV M (mergeAV x va vb) u := by
  unfold mergeAV
  split
  · split
    · rename_i e _
      subst e
      cases x <;> exact h
    · simp [RelV]
  · split
    · rename_i hb
      have := Nat.eq_of_beq_eq_true hb
      subst this
      cases x <;> exact h
    · simp [RelV]
  · split
    · rename_i e hb _
      have := Nat.eq_of_beq_eq_true hb
      subst this
      subst e
      cases x <;> exact h
    · simp [RelV]
  · simp [RelV]

theorem isUndef_false {v : AV} (h : isUndef v = false) : v ≠ .undef := by
  rintro rfl
  simp [isUndef] at h

/-- Behind a fork. -/
theorem merge_sound {x : Bool} {W : List Nat} {sa sb m : St} (hm : mergeSt x W s sa sb = some m) (hs : IsSt R (if x then sa else sb) a' w) (ha : Apart (fun t => t ∈ W) s a (if x then sa else sb) a') :
    IsSt R m a' w ∧ Apart (fun t => t ∈ W) s a m a' := by
  unfold mergeSt at hm
  split at hm
  · cases hm
  rename_i bs hbs
  simp only [Option.some.injEq] at hm
  subst hm
  obtain ⟨M, hM, e, I, hr⟩ := hs
  have key : ∀ b d Z, lk b bs = some (d, Z) → ∃ d' B, lk b (if x then sa else sb).boxes = some (d', B) ∧ Box.weak B Z ∧ (d = false → d' = false ∧ B = Z) := by
    intro b d Z hz
    obtain ⟨da, Ba, db, Bb, h1, h2, h3⟩ := mergeBoxes_spec hbs hz
    have hx : lk b (if x then sa else sb).boxes = some (if x then da else db, if x then Ba else Bb) := by cases x <;> simpa using by assumption
    rcases h3 with ⟨rfl, rfl, rfl, d0, h3⟩ | ⟨rfl, h3⟩
    · have hx' : lk b (if x then sa else sb).boxes = some (false, if x then Ba else Bb) := by rw [hx]; cases x <;> rfl
      have := ha.boxes b _ hx'
      rw [h3] at this
      simp only [Option.some.injEq, Prod.mk.injEq] at this
      refine ⟨_, _, hx', ?_, fun _ => ⟨rfl, this.2.symm⟩⟩
      rw [← this.2]
      exact Box.weak_refl _
    · exact ⟨_, _, hx, mergeBox_weak h3, fun h => by cases h⟩
  have hw : ∀ b d Z, lk b bs = some (d, Z) → ∃ d' B, lk b M.bs = some (d', B) ∧ Box.weak B Z := by
    intro b d Z hz
    obtain ⟨d', B, h1, h2, _⟩ := key b d Z hz
    exact ⟨d', B, by rw [e]; exact h1, h2⟩
  have hlook : ∀ t, St.look { tmps := newTmps x bs sa sb W ++ mergeTmps bs W sa sb s.tmps, boxes := bs } t =
      if memN t W = true then (match live bs (mergeAV x (sa.look t) (sb.look t)) with | true => mergeAV x (sa.look t) (sb.look t) | false => .undef)
      else match memN t W || isUndef (sa.look t) || isUndef (sb.look t) || !(live bs (s.look t)) with | true => AV.undef | false => s.look t := by
    intro t
    unfold St.look
    simp only
    rw [lk_append, lk_newTmps]
    split
    · rename_i v hv
      split at hv
      · simp only [Option.some.injEq] at hv
        rename_i hw
        rw [if_pos hw, ← hv]
        rfl
      · cases hv
    · rename_i hv
      split at hv
      · cases hv
      · rename_i hw
        rw [if_neg hw, lk_mergeTmps]
        cases lk t s.tmps with
        | none =>
          simp only [Option.map_none, Option.getD_none]
          split <;> rfl
        | some v => rfl
  refine ⟨⟨{ M with bs := bs }, hM, rfl, I.weak hw, fun t => ?_⟩, ha.size, ha.defers, ha.tmps, fun t ht => ?_, fun b B hb => ?_⟩
  · rw [hlook]
    split
    · split
      · rename_i hl
        refine RelV.weak hw (mergeAV_rel ?_) hl
        have := hr t
        cases x <;> exact this
      · simp [RelV]
    · rename_i hW
      split
      · simp [RelV]
      · rename_i hc
        simp only [Bool.or_eq_false_iff, Bool.not_eq_false'] at hc
        obtain ⟨⟨⟨_, h1⟩, h2⟩, h3⟩ := hc
        refine RelV.weak hw ?_ h3
        have hne : (if x then sa else sb).look t ≠ .undef := by
          cases x with
          | true => exact isUndef_false h1
          | false => exact isUndef_false h2
        rcases ha.look t (fun hm => hW (memN_iff.2 hm)) with h | h
        · exact absurd h hne
        · rw [← h]; exact hr t
  · rw [hlook, if_neg (fun hm => ht (memN_iff.1 hm))]
    split
    · exact .inl rfl
    · exact .inr rfl
  · obtain ⟨d', B', h1, h2, h3⟩ := key b false B hb
    obtain ⟨rfl, rfl⟩ := h3 rfl
    exact ha.boxes b _ h1
end

theorem single_holds {α : Type} : ∀ {t : Tree α} {ps : List Prop} {a : α}, t.single = some (ps, a) → (∀ p ∈ ps, p) → t.holds (fun y => y = a)
  | .leaf b, ps, a, h, _ => by
    simp only [Tree.single, Option.some.injEq, Prod.mk.injEq] at h
    exact h.2
  | .need p t, ps, a, h, hp => by
    simp only [Tree.single] at h
    split at h
    · rename_i qs b hq
      simp only [Option.some.injEq, Prod.mk.injEq] at h
      obtain ⟨rfl, rfl⟩ := h
      exact ⟨hp p (by simp), single_holds hq (fun q hq => hp q (by simp [hq]))⟩
    · cases h
  | .br _ _ _, _, _, h, _ => by simp [Tree.single] at h
  | .stuck, _, _, h, _ => by simp [Tree.single] at h

theorem needs_holds {α : Type} {F : α → Prop} {c : Bool} : ∀ {ps : List Prop} {t : Tree α}, (Tree.needs c ps t).holds F → (c = true → ∀ p ∈ ps, p) ∧ t.holds F
  | [], t, h => ⟨fun _ p hp => by simp at hp, h⟩
  | p :: ps, t, h => by
    obtain ⟨h1, h2⟩ := h
    obtain ⟨h3, h4⟩ := needs_holds h2
    refine ⟨fun hc q hq => ?_, h4⟩
    rcases List.mem_cons.1 hq with rfl | hq
    · exact h1 hc
    · exact h3 hc q hq

theorem mem_dedup {t : Nat} : ∀ {l : List Nat}, t ∈ dedupN l ↔ t ∈ l
  | [] => by simp [dedupN]
  | x :: l => by
    simp only [dedupN]
    cases hx : memN x l with
    | true =>
      simp only [mem_dedup (l := l), List.mem_cons]
      exact ⟨.inr, fun h => h.elim (fun e => e ▸ memN_iff.1 hx) id⟩
    | false =>
      simp only [List.mem_cons, mem_dedup (l := l)]
end Go.Ev
/- Loops. -/
set_option linter.unusedVariables false
set_option linter.unusedSimpArgs false
namespace Go.Ev

/-- As 'Apart', but for the boxes' marks. -/
structure Far (W : Nat → Prop) (s : St) (a : Act) (s' : St) (a' : Act) : Prop where
  size : a'.tmps.size = a.tmps.size
  defers : a'.defers = a.defers
  tmps : ∀ t, ¬ W t → a'.tmps.getD t undef = a.tmps.getD t undef
  look : ∀ t, ¬ W t → s'.look t = .undef ∨ s'.look t = s.look t

theorem Far.refl (W : Nat → Prop) (s : St) (a : Act) : Far W s a s a := ⟨rfl, rfl, fun _ _ => rfl, fun _ _ => .inr rfl⟩
theorem Far.trans {W : Nat → Prop} {s s' s'' : St} {a a' a'' : Act} (h : Far W s a s' a') (k : Far W s' a' s'' a'') : Far W s a s'' a'' :=
  ⟨k.size.trans h.size, k.defers.trans h.defers, fun t ht => (k.tmps t ht).trans (h.tmps t ht), fun t ht => by
    rcases k.look t ht with h1 | h1
    · exact .inl h1
    · rcases h.look t ht with h2 | h2
      · exact .inl (h1.trans h2)
      · exact .inr (h1.trans h2)⟩
theorem Apart.far {W : Nat → Prop} {s s' : St} {a a' : Act} (h : Apart W s a s' a') : Far W s a s' a' := ⟨h.size, h.defers, h.tmps, h.look⟩

def Ex.to : Ex → Exit
  | .normal => .normal
  | .exit id => .exit id
  | .ret => .ret

theorem keepB_spec {b : Nat} : ∀ {l : List Nat} {s r : Bxs}, keepB l s = some r → (∀ {d B}, lk b r = some (d, B) → d = false ∧ b ∈ l ∧ ∃ d', lk b s = some (d', B)) ∧ (b ∈ l → ∃ d B, lk b r = some (d, B))
  | [], s, r, h => by
    simp only [keepB, Option.some.injEq] at h
    subst h
    exact ⟨fun h => by simp [lk] at h, fun h => by simp at h⟩
  | c :: l, s, r, h => by
    simp only [keepB] at h
    split at h
    · rename_i d0 B0 r' hs hr
      simp only [Option.some.injEq] at h
      subst h
      obtain ⟨ih1, ih2⟩ := keepB_spec (b := b) hr
      simp only [lk]
      cases hb : Nat.beq c b with
      | true =>
        have := Nat.eq_of_beq_eq_true hb
        subst this
        refine ⟨fun h => ?_, fun _ => ⟨_, _, rfl⟩⟩
        simp only [Option.some.injEq, Prod.mk.injEq] at h
        obtain ⟨rfl, rfl⟩ := h
        exact ⟨rfl, by simp, d0, hs⟩
      | false =>
        have hne : b ≠ c := fun h => by rw [h] at hb; simp at hb
        refine ⟨fun h => ?_, fun h => ih2 (by simpa [hne] using h)⟩
        obtain ⟨h1, h2, h3⟩ := ih1 h
        exact ⟨h1, by simp [h2], h3⟩
    · cases h

theorem lk_keepT (s : St) (t : Nat) : ∀ l : List Nat, lk t (keepT l s) = if memN t l = true then some (s.look t) else none
  | [] => by simp [keepT, memN, lk]
  | j :: l => by
    have ih := lk_keepT s t l
    simp only [keepT, List.map_cons, lk, memN] at ih ⊢
    cases hb : Nat.beq j t with
    | true =>
      have := Nat.eq_of_beq_eq_true hb
      subst this
      simp
    | false =>
      have hb' : Nat.beq t j = false := by
        cases hh : Nat.beq t j with
        | false => rfl
        | true => rw [Nat.eq_of_beq_eq_true hh] at hb; simp at hb
      simp only [hb', Bool.false_or]
      exact ih

section
variable {P : Program} {C : Ctx} {R : Ref} {s s' : St} {a a' : Act} {w : World} {L : LoopSpec}

structure Restr (L : LoopSpec) (s s' : St) : Prop where
  box : ∀ b d B, lk b s'.boxes = some (d, B) → d = false ∧ b ∈ L.boxes ∧ ∃ d', lk b s.boxes = some (d', B)
  has : ∀ b, b ∈ L.boxes → ∃ d B, lk b s'.boxes = some (d, B)
  look : ∀ t, s'.look t = if memN t L.keep = true then s.look t else .undef
  tmp : ∀ t, lk t s'.tmps = if memN t L.keep = true then some (s.look t) else none
  live : ∀ t, memN t L.keep = true → s.look t = .undef ∨ Ev.live s'.boxes (s.look t) = true

theorem restrict_spec (h : restrict L s = some s') : Restr L s s' := by
  unfold restrict at h
  split at h
  · cases h
  rename_i bs hb
  split at h
  · rename_i hl
    simp only [Option.some.injEq] at h
    subst h
    refine ⟨fun b d B hB => (keepB_spec hb).1 hB, fun b hB => (keepB_spec hb).2 hB, fun t => ?_, fun t => lk_keepT s t _, fun t ht => ?_⟩
    · show (lk t (keepT L.keep s)).getD .undef = _
      rw [lk_keepT]
      split <;> rfl
    · rw [List.all_eq_true] at hl
      have : (t, s.look t) ∈ keepT L.keep s := by
        unfold keepT
        exact List.mem_map.2 ⟨t, memN_iff.1 ht, rfl⟩
      have := hl _ this
      simp only [Bool.or_eq_true] at this
      rcases this with h | h
      · left
        cases hv : s.look t <;> rw [hv] at h <;> simp [isUndef] at h ⊢
      · exact .inr h
  · cases h

theorem Restr.weak {M : Mem} (H : Restr L s s') (hb : M.bs = s.boxes) : ∀ b d Z, lk b s'.boxes = some (d, Z) → ∃ d' B, lk b M.bs = some (d', B) ∧ Box.weak B Z := by
  intro b d Z hz
  obtain ⟨_, _, d', h⟩ := H.box b d Z hz
  exact ⟨d', Z, by rw [hb]; exact h, Box.weak_refl Z⟩

theorem Restr.rel {M : Mem} (H : Restr L s s') (hb : M.bs = s.boxes) (hr : ∀ t, RelV M (s.look t) (a.tmps.getD t undef)) (t : Nat) : RelV { M with bs := s'.boxes } (s'.look t) (a.tmps.getD t undef) := by
  rw [H.look]
  split
  · rename_i ht
    rcases H.live t ht with h | h
    · rw [h]; simp [RelV]
    · exact (hr t).weak (H.weak hb) h
  · simp [RelV]

theorem IsSt.restr (H : Restr L s s') (h : IsSt R s a w) : IsSt R s' a w := by
  obtain ⟨M, hM, hb, I, hr⟩ := h
  exact ⟨{ M with bs := s'.boxes }, hM, rfl, I.weak (H.weak hb), H.rel hb hr⟩

theorem Restr.far (H : Restr L s s') (W : Nat → Prop) : Far W s a s' a := ⟨rfl, rfl, fun _ _ => rfl, fun t _ => by
  rw [H.look]
  split
  · exact .inr rfl
  · exact .inl rfl⟩

def BodyOK (P : Program) (C : Ctx) (body : Code) : Prop :=
  ∀ (R : Ref) (s : St) (a : Act) (w : World) (F : Ex × St → Prop), IsSt R s a w → (∀ t ∈ writes body, t < a.tmps.size) → (ev C body s).holds F →
    body.wp P (fun e a' w' => ∃ x s', e = x.to ∧ F (x, s') ∧ IsSt R s' a' w' ∧ Apart (fun t => t ∈ writes body) s a s' a') a w

/-- Round and round. -/
theorem loop_rounds {body : Code} (hB : BodyOK P C body) {F : Ex × St → Prop} {Q : Exit → Act → World → Prop} {s1 : St} {a1 : Act}
    (hQ : ∀ x sx s' a' w', x ≠ .normal → F (x, s') → IsSt R s' a' w' → Restr L sx s' → Far (fun t => t ∈ writes body) s1 a1 s' a' → Q x.to a' w') :
    ∀ (n : Nat) (s : St) (a : Act) (w : World), IsSt R s a w → (∀ t ∈ writes body, t < a.tmps.size) → Far (fun t => t ∈ writes body) s1 a1 s a → (iter L (ev C body) n s).holds F →
      ∀ (b : Frame) (k : List Item) (cs : List Frame), ∃ e a' w', Q e a' w' ∧ Arrives P (lone (b.at a (.code body :: .inLoop body :: k)) cs w) b k cs e a' w'
  | 0, s, a, w, _, _, _, h => h.elim
  | n + 1, s, a, w, hs, hsz, hf, h => by
    intro b k cs
    simp only [iter] at h
    have h' := holds_bind.1 h
    obtain ⟨e, a2, w2, ⟨x, s2, rfl, hF, hs2, hap⟩, harr⟩ := hB R s a w _ hs hsz h' b (.inLoop body :: k) cs
    simp only at hF
    split at hF
    · exact hF.elim
    rename_i s3 hr
    have H := restrict_spec hr
    have hs3 := hs2.restr H
    have hf3 : Far (fun t => t ∈ writes body) s1 a1 s3 a2 := (hf.trans hap.far).trans (H.far _)
    cases x with
    | normal =>
      obtain ⟨e, a', w', hq, harr'⟩ := loop_rounds hB hQ n s3 a2 w2 hs3 (fun t ht => by rw [hap.size]; exact hsz t ht) hf3 hF b k cs
      exact ⟨e, a', w', hq, .of_steps (Steps.trans harr (.one step_inLoop)) harr'⟩
    | exit id => exact ⟨_, a2, w2, hQ (.exit id) s2 s3 a2 w2 (by simp) hF hs3 H hf3, .pass (x := .inLoop body) rfl (fun _ _ => .inl (by simp [Ex.to])) harr⟩
    | ret => exact ⟨_, a2, w2, hQ .ret s2 s3 a2 w2 (by simp) hF hs3 H hf3, .pass (x := .inLoop body) rfl (fun _ _ => .inl (by simp [Ex.to])) harr⟩

theorem loop_wp {body : Code} (hB : BodyOK P C body) {F : Ex × St → Prop} {Q : Exit → Act → World → Prop} (hs : IsSt R s a w) (hsz : ∀ t ∈ writes body, t < a.tmps.size) {n : Nat} (h : (iter L (ev C body) n s).holds F)
    (hQ : ∀ x sx s' a' w', x ≠ .normal → F (x, s') → IsSt R s' a' w' → Restr L sx s' → Far (fun t => t ∈ writes body) s a s' a' → Q x.to a' w') : (Code.loop body).wp P Q a w := by
  intro b k cs
  obtain ⟨e, a', w', hq, harr⟩ := loop_rounds hB hQ n s a w hs hsz (Far.refl _ _ _) h b k cs
  exact ⟨e, a', w', hq, .of_steps (.one step_loop) harr⟩

/-- Nil slices become rows. -/
theorem promote_sound : ∀ {l : List (Nat × Nat × Nat × GTy)} {s s0 : St}, promote s l = some s0 → IsSt R s a w → IsSt R s0 a w ∧ (∀ t, (∀ p ∈ l, p.1 ≠ t) → s0.look t = s.look t) ∧ (∀ b B, lk b s0.boxes = some (false, B) → lk b s.boxes = some (false, B))
  | [], s, s0, h, hs => by
    simp only [promote, Option.some.injEq] at h
    subst h
    exact ⟨hs, fun _ _ => rfl, fun _ _ h => h⟩
  | (t, k, e, g) :: l, s, s0, h, hs => by
    simp only [promote] at h
    split at h
    · rename_i hv
      split at h
      · rename_i hk hg
        have hk' : lk k s.boxes = none := by simpa [St.box] using hk
        have hg' : 0 < ncell g := by simpa [Nat.blt_eq] using hg
        have step : IsSt R { tmps := st' t (.tip k) s.tmps, boxes := st' k (true, .row e g [] false) s.boxes } a w := by
          obtain ⟨M, rfl, hb, I, hr⟩ := hs
          have hB : RelB R M.w M.S (.slice none 0 0) (.row e g [] false) :=
            ⟨[], World.ownsRow_nil _ _ _ _, rfl, by simp [maxRow], by simp [maxRow], hg', fun blk hbk => by simp [blkOf] at hbk⟩
          have I2 := I.setBox (w' := M.w) (S' := M.S) k (.row e g [] false) true rfl rfl rfl (Nat.le_refl _) (fun _ _ _ => rfl) (Keeps.refl _ _) (fun _ _ h => .inl h) hB (fun x hx => by simp [blkOf] at hx)
          have st : Step M { M with β := fun c => if c = k then .slice none 0 0 else M.β c, bs := st' k (true, .row e g [] false) M.bs } (fun c => c = k) :=
            ⟨Keeps.refl _ _, fun c d B hc hne => ⟨d, B, by simp only [lk_st]; simp [hne, hc], by simp [hne], Box.le_refl B⟩⟩
          refine ⟨{ M with β := fun c => if c = k then .slice none 0 0 else M.β c, bs := st' k (true, .row e g [] false) M.bs }, rfl, by rw [← hb], I2, fun u => ?_⟩
          show RelV _ ((lk u (st' t (.tip k) s.tmps)).getD .undef) _
          rw [lk_st]
          by_cases hu : u = t
          · rw [if_pos hu]
            have := hr u
            rw [hu, hv] at this
            simp only [RelV] at this
            simp only [Option.getD_some, RelV]
            rw [hu, this]
            exact ⟨⟨true, _, lk_st_same _ _ _, trivial⟩, by simp⟩
          · rw [if_neg hu]
            refine (hr u).step st (fun b hbk => ?_)
            subst hbk
            cases hh : (s.look u).has b with
            | false => rfl
            | true => exact absurd (by rw [hb]; exact hk') ((hr u).has_box b hh)
        obtain ⟨h1, h2, h3⟩ := promote_sound h step
        refine ⟨h1, fun u hu => ?_, fun b B hB => ?_⟩
        · rw [h2 u (fun p hp => hu p (by simp [hp]))]
          show (lk u (st' t (.tip k) s.tmps)).getD .undef = _
          rw [lk_st, if_neg (fun h => hu (t, k, e, g) (by simp) h.symm)]
          rfl
        · have := h3 b B hB
          simp only [lk_st] at this
          split at this
          · simp at this
          · exact this
      · cases h
    · obtain ⟨h1, h2, h3⟩ := promote_sound h hs
      exact ⟨h1, fun u hu => h2 u (fun p hp => hu p (by simp [hp])), h3⟩
    · cases h
end
end Go.Ev
/- Into a loop, and out of it. -/
set_option linter.unusedVariables false
set_option linter.unusedSimpArgs false
namespace Go.Ev

def subRef (M : Mem) (L : LoopSpec) (hT : Tab M.S M.w) : Ref where
  w0 := M.w
  own k := ∃ b, b ∈ L.boxes ∧ (∃ d B, lk b M.bs = some (d, B)) ∧ blkOf (M.β b) = some k
  S0 := M.S
  tab := hT

theorem RelB.renew {R R' : Ref} {w : World} {S : Stab} {v : Value} {B : Box} (h : RelB R w S v B) (hn : ∀ blk, blkOf v = some blk → R'.new blk) : RelB R' w S v B := by
  cases B with
  | var g x =>
    obtain ⟨blk, cs, e, rfl, h2, h3, h4, h5⟩ := h
    exact ⟨blk, cs, e, rfl, h2, h3, h4, hn blk rfl⟩
  | row e g xs fz =>
    obtain ⟨cs, h1, h2, h3, h4, h5, h6⟩ := h
    exact ⟨cs, h1, h2, h3, h4, h5, fun blk hb => ⟨hn blk hb, (h6 blk hb).2⟩⟩

section
variable {P : Program} {C : Ctx} {R : Ref} {s0 s1 s2 sx : St} {a a' : Act} {w : World} {L : LoopSpec} {M : Mem}

theorem enter (I : InvM R M) (hb : M.bs = s0.boxes) (hr : ∀ t, RelV M (s0.look t) (a.tmps.getD t undef)) (H : Restr L s0 s1) : IsSt (subRef M L (R.tab.keeps I.old)) s1 a M.w := by
  refine ⟨{ M with bs := s1.boxes }, rfl, rfl, ⟨rfl, rfl, rfl, Nat.le_refl _, fun _ _ _ => rfl, Keeps.refl _ _, fun b o h => ⟨.inl h, (I.here b o h).2⟩, fun b d B hB => ?_, fun b c d B d' B' hne hB hC => ?_⟩, H.rel hb hr⟩
  · obtain ⟨_, h1, d', h2⟩ := H.box b d B hB
    rw [← hb] at h2
    exact (I.boxes b d' B h2).renew (fun blk hblk => .inr ⟨b, h1, ⟨d', B, h2⟩, hblk⟩)
  · obtain ⟨_, _, d1, h1⟩ := H.box b d B hB
    obtain ⟨_, _, d2, h2⟩ := H.box c d' B' hC
    rw [← hb] at h1 h2
    exact I.sep b c d1 B d2 B' hne h1 h2

theorem lk_mapT (f : Nat → AV → AV) (t : Nat) : ∀ l : List (Nat × AV), lk t (l.map fun (x : Nat × AV) => (x.1, f x.1 x.2)) = (lk t l).map (f t)
  | [] => rfl
  | (j, v) :: l => by
    simp only [List.map_cons, lk]
    cases hb : Nat.beq j t with
    | true => rw [Nat.eq_of_beq_eq_true hb]; rfl
    | false => exact lk_mapT f t l

def outB (L : LoopSpec) (s0 : St) : Bxs := s0.boxes.filter fun x => !(memN x.1 L.boxes)

theorem rejoin_boxes (W : List Nat) (b : Nat) : lk b (rejoin L W s0 s2).boxes = match lk b s2.boxes with | some (_, B) => some (true, B) | none => lk b (outB L s0) := by
  show lk b (s2.boxes.map (fun (x : Nat × Bool × Box) => (x.1, true, x.2.2)) ++ outB L s0) = _
  rw [lk_append, lk_marks (fun _ _ => true)]
  cases lk b s2.boxes <;> rfl

theorem lk_outB (b : Nat) : lk b (outB L s0) = if memN b L.boxes = true then none else lk b s0.boxes := lk_filter L.boxes b s0.boxes

theorem rejoin_look (H : Restr L sx s2) (W : List Nat) (t : Nat) : (rejoin L W s0 s2).look t = if memN t L.keep = true then s2.look t else match !(memN t W) && !(memN t L.keep) && live (outB L s0) (s0.look t) with | true => s0.look t | false => .undef := by
  show (lk t (s2.tmps ++ s0.tmps.map (fun (x : Nat × AV) => (x.1, match !(memN x.1 W) && !(memN x.1 L.keep) && live (outB L s0) x.2 with | true => x.2 | false => AV.undef)))).getD .undef = _
  rw [lk_append, lk_mapT (fun t v => match !(memN t W) && !(memN t L.keep) && live (outB L s0) v with | true => v | false => AV.undef), H.tmp]
  split
  · rename_i v hv
    split at hv
    · rename_i hk
      simp only [Option.some.injEq] at hv
      rw [if_pos hk, H.look, if_pos hk, hv]
      rfl
    · cases hv
  · rename_i hv
    split at hv
    · cases hv
    · rename_i hk
      rw [if_neg hk]
      unfold St.look
      cases lk t s0.tmps with
      | none =>
        simp only [Option.map_none, Option.getD_none]
        split <;> rfl
      | some v => rfl

theorem leave (I : InvM R M) (hb : M.bs = s0.boxes) (hr : ∀ t, RelV M (s0.look t) (a.tmps.getD t undef)) (H1 : Restr L s0 s1) (h2 : IsSt (subRef M L (R.tab.keeps I.old)) s2 a' w) (H : Restr L sx s2) {W : List Nat} (hf : Far (fun t => t ∈ W) s1 a s2 a') :
    IsSt R (rejoin L W s0 s2) a' w ∧ Apart (fun t => t ∈ W) s0 a (rejoin L W s0 s2) a' := by
  obtain ⟨M2, rfl, hb2, I2, hr2⟩ := h2
  have hnew : ∀ k, (subRef M L (R.tab.keeps I.old)).new k → R.new k := by
    intro k hk
    rcases hk with hk | ⟨b, _, ⟨d, B, h1⟩, h2⟩
    · exact .inl (Nat.le_trans I.size hk)
    · exact (I.boxes b d B h1).new k h2
  have hown : ∀ {b d B k}, b ∉ L.boxes → lk b M.bs = some (d, B) → blkOf (M.β b) = some k → k < M.w.heap.size ∧ ¬ (subRef M L (R.tab.keeps I.old)).new k := by
    intro b d B k hbL hB hk
    have hlt := (I.boxes b d B hB).lt k hk
    refine ⟨hlt, fun hn => ?_⟩
    rcases hn with hn | ⟨c, hc, ⟨d', B', h1⟩, h2⟩
    · exact absurd hlt (Nat.not_lt.2 hn)
    · exact I.sep b c d B d' B' (fun h => hbL (h ▸ hc)) hB h1 k hk h2
  have hk : Keeps M.S M2.S M.w M2.w := I2.old
  have hs2 : ∀ b d B, lk b s2.boxes = some (d, B) → b ∈ L.boxes := fun b d B h => (H.box b d B h).2.1
  have hin : ∀ b, b ∈ L.boxes → lk b s2.boxes ≠ none := fun b h => by
    obtain ⟨d, B, h1⟩ := H.has b h
    rw [h1]; simp
  have hbox : ∀ b d B, lk b (rejoin L W s0 s2).boxes = some (d, B) → (b ∈ L.boxes ∧ (∃ d', lk b M2.bs = some (d', B)) ∧ d = true) ∨ (b ∉ L.boxes ∧ lk b M.bs = some (d, B) ∧ lk b (outB L s0) = some (d, B)) := by
    intro b d B h
    rw [rejoin_boxes] at h
    split at h
    · rename_i d' B' h'
      simp only [Option.some.injEq, Prod.mk.injEq] at h
      obtain ⟨rfl, rfl⟩ := h
      exact .inl ⟨hs2 b d' _ h', ⟨d', by rw [hb2]; exact h'⟩, rfl⟩
    · have h0 := h
      rw [lk_outB] at h
      split at h
      · cases h
      · rename_i hm
        exact .inr ⟨fun hh => hm (memN_iff.2 hh), by rw [hb]; exact h, h0⟩
  let β : Nat → Value := fun b => if memN b L.boxes = true then M2.β b else M.β b
  have β1 : ∀ b, b ∈ L.boxes → β b = M2.β b := fun b h => if_pos (memN_iff.2 h)
  have β2 : ∀ b, b ∉ L.boxes → β b = M.β b := fun b h => if_neg (fun hh => h (memN_iff.1 hh))
  have I3 : InvM R { w := M2.w, S := M2.S, β := β, bs := (rejoin L W s0 s2).boxes } := by
    refine ⟨I2.os.trans I.os, I2.tape.trans I.tape, I2.output.trans I.output, Nat.le_trans I.size I2.size, fun k hk1 hk2 => ?_, I.old.trans hk, fun b o hS => ?_, fun b d B hB => ?_, fun b c d B d' B' hne hB hC k => ?_⟩
    · refine (I2.frame k (Nat.lt_of_lt_of_le hk1 I.size) (fun ho => ?_)).trans (I.frame k hk1 hk2)
      rcases hnew k (.inr ho) with h | h
      · exact absurd hk1 (Nat.not_lt.2 h)
      · exact hk2 h
    · obtain ⟨h1, h2⟩ := I2.here b o hS
      refine ⟨?_, h2⟩
      rcases h1 with h1 | h1
      · exact (I.here b o h1).1
      · exact .inr (hnew b h1)
    · rcases hbox b d B hB with ⟨hL, ⟨d', h⟩, _⟩ | ⟨hL, h, _⟩
      · show RelB R M2.w M2.S (β b) B
        rw [β1 b hL]
        have := I2.boxes b d' B h
        exact this.renew (fun blk hblk => hnew blk (this.new blk hblk))
      · show RelB R M2.w M2.S (β b) B
        rw [β2 b hL]
        refine (I.boxes b d B h).move hk (fun blk hblk => ?_) (fun blk o hblk hS => ?_)
        · obtain ⟨h1, h2⟩ := hown hL h hblk
          exact I2.frame blk h1 (fun ho => h2 (.inr ho))
        · obtain ⟨h1, h2⟩ := hown hL h hblk
          rcases (I2.here blk o hS).1 with h3 | h3
          · exact h3
          · exact absurd h3 h2
    · show blkOf (β b) = some k → blkOf (β c) ≠ some k
      rcases hbox b d B hB with ⟨hL, ⟨d1, h⟩, _⟩ | ⟨hL, h, _⟩ <;> rcases hbox c d' B' hC with ⟨hL', ⟨d2, h'⟩, _⟩ | ⟨hL', h', _⟩
      · rw [β1 b hL, β1 c hL']
        exact I2.sep b c d1 B d2 B' hne h h' k
      · rw [β1 b hL, β2 c hL']
        intro h1 h2
        exact (hown hL' h' h2).2 ((I2.boxes b d1 B h).new k h1)
      · rw [β2 b hL, β1 c hL']
        intro h1 h2
        exact (hown hL h h1).2 ((I2.boxes c d2 B' h').new k h2)
      · rw [β2 b hL, β2 c hL']
        exact I.sep b c d B d' B' hne h h' k
  have st2 : Step M2 { w := M2.w, S := M2.S, β := β, bs := (rejoin L W s0 s2).boxes } (fun _ => False) := by
    refine ⟨Keeps.refl _ _, fun b d B hB _ => ?_⟩
    rw [hb2] at hB
    exact ⟨true, B, by rw [rejoin_boxes, hB], β1 b (hs2 b d B hB), Box.le_refl B⟩
  have st1 : Step M { w := M2.w, S := M2.S, β := β, bs := (rejoin L W s0 s2).boxes } (fun b => lk b (outB L s0) = none) := by
    refine ⟨hk, fun b d B hB hK => ?_⟩
    have hL : b ∉ L.boxes := fun hL => hK (by rw [lk_outB, if_pos (memN_iff.2 hL)])
    refine ⟨d, B, ?_, β2 b hL, Box.le_refl B⟩
    rw [rejoin_boxes]
    have hn : lk b s2.boxes = none := by
      cases h : lk b s2.boxes with
      | none => rfl
      | some y => exact absurd (hs2 b y.1 y.2 h) hL
    rw [hn]
    simp only
    rw [lk_outB, if_neg (fun h => hL (memN_iff.1 h)), ← hb]
    exact hB
  refine ⟨⟨{ w := M2.w, S := M2.S, β := β, bs := (rejoin L W s0 s2).boxes }, rfl, rfl, I3, fun t => ?_⟩, hf.size, hf.defers, hf.tmps, fun t ht => ?_, fun b B hB => ?_⟩
  · rw [rejoin_look H]
    split
    · exact (hr2 t).steps st2
    · split
      · rename_i hc
        simp only [Bool.and_eq_true, Bool.not_eq_true'] at hc
        obtain ⟨⟨h1, h2⟩, h3⟩ := hc
        rw [hf.tmps t (fun h => by rw [memN_iff.2 h] at h1; cases h1)]
        exact (hr t).step st1 (live_has h3)
      · simp [RelV]
  · rw [rejoin_look H]
    split
    · rename_i hkp
      rcases hf.look t ht with h | h
      · exact .inl h
      · rw [h, H1.look, if_pos hkp]
        exact .inr rfl
    · split
      · exact .inr rfl
      · exact .inl rfl
  · rcases hbox b false B hB with ⟨_, _, h⟩ | ⟨_, h, _⟩
    · cases h
    · rw [← hb]; exact h
end
end Go.Ev
/- Code does what the evaluator says. -/
set_option linter.unusedVariables false
set_option linter.unusedSimpArgs false
namespace Go.Ev

/-- What is told of the loops is so. -/
def LamOK (C : Ctx) : Code → Prop
  | .seq a b => LamOK C a ∧ LamOK C b
  | .cond _ a b => LamOK C a ∧ LamOK C b
  | .loop c => LamOK C c
  | .scope c => LamOK C c
  | .block id c => LamOK C c ∧ ∀ body, c = .loop body → ∀ L, C.Λ id = some L → ∀ (s : St) (F : Ex × St → Prop), (L.sum s).holds F → ∃ n, (iter L (ev C body) n s).holds F
  | _ => True

section
variable {P : Program} {C : Ctx}

theorem mem_dsts {ops : List Oper} {t : Nat} : t ∈ dsts ops ↔ ∃ o ∈ ops, o.dst = some t := by
  unfold dsts
  rw [List.mem_filterMap]

theorem region_ok (TOK : TysOK P C.τ) (GC : CtrsOK P C.Γ) (hmix : P.follows .mixedOrders = true) (id : Nat) (ops : Array Oper) (draw : Bool) : BodyOK P C (.region id ops draw) := by
  intro R s a w F hs hsz hF
  have hd : ∀ o ∈ ops.toList, ∀ k, o.dst = some k → k < a.tmps.size := fun o ho k hk => hsz k (mem_dsts.2 ⟨o, ho, hk⟩)
  simp only [ev] at hF
  split at hF
  · rename_i hg
    simp only [Bool.or_eq_false_iff, List.any_eq_false] at hg
    obtain ⟨rfl, hg⟩ := hg
    have hF' := holds_bind.1 hF
    refine wp_region ?_
    rw [List.range_eq_range', show ops.size = ops.toList.length by simp]
    refine runOps_wp TOK GC ops.toList 0 s a w _ (fun i o hi => by rw [Nat.zero_add, ← Array.getElem?_toList]; exact hi) (fun o ho => ⟨?_, hd o ho⟩) hs hF' (fun s' a' w' f1 f2 f3 => ⟨.normal, s', rfl, f1, f2, f3.mono (fun t ht => mem_dsts.2 ht)⟩)
    have := hg o ho
    cases hgo : o.guard with
    | none => rfl
    | some x => simp [hgo] at this
  · have hF' := holds_bind.1 hF
    cases draw with
    | true => exact runDraw_wp TOK GC hmix hs hF' hd (fun s' a' w' f1 f2 f3 => ⟨.normal, s', rfl, f1, f2, f3.mono (fun t ht => mem_dsts.2 ht)⟩)
    | false =>
      simp only at hF'
      have other : (runBr C ops.toList ops.toList s).holds (fun s' => (Tree.leaf (Ex.normal, s')).holds F) → (Code.region id ops false).wp P (fun e a' w' => ∃ z s', e = Ex.to z ∧ F (z, s') ∧ IsSt R s' a' w' ∧ Apart (fun t => t ∈ writes (Code.region id ops false)) s a s' a') a w := fun h => by
        refine wp_region ?_
        rw [List.range_eq_range', show ops.size = ops.toList.length by simp]
        exact runBr_wp TOK GC ops.toList 0 s a w _ (fun i o hi => by rw [Nat.zero_add, ← Array.getElem?_toList]; exact hi) hd hs h (fun s' a' w' f1 f2 f3 => ⟨.normal, s', rfl, f1, f2, f3.mono (fun t ht => mem_dsts.2 ht)⟩)
      cases hr : runDraw C ops.toList false s with
      | stuck => rw [hr] at hF'; exact other hF'
      | leaf _ => exact runDraw_wp TOK GC hmix hs (by rw [hr] at hF' ⊢; exact hF') hd (fun s' a' w' f1 f2 f3 => ⟨.normal, s', rfl, f1, f2, f3.mono (fun t ht => mem_dsts.2 ht)⟩)
      | br _ _ _ => exact runDraw_wp TOK GC hmix hs (by rw [hr] at hF' ⊢; exact hF') hd (fun s' a' w' f1 f2 f3 => ⟨.normal, s', rfl, f1, f2, f3.mono (fun t ht => mem_dsts.2 ht)⟩)
      | need _ _ => exact runDraw_wp TOK GC hmix hs (by rw [hr] at hF' ⊢; exact hF') hd (fun s' a' w' f1 f2 f3 => ⟨.normal, s', rfl, f1, f2, f3.mono (fun t ht => mem_dsts.2 ht)⟩)

theorem seq_ok {x y : Code} (hx : BodyOK P C x) (hy : BodyOK P C y) : BodyOK P C (.seq x y) := by
  intro R s a w F hs hsz hF
  simp only [ev] at hF
  have hF' := holds_bind.1 hF
  simp only [writes, List.mem_append] at hsz ⊢
  refine wp_seq (wp_mono (hx R s a w _ hs (fun t ht => hsz t (.inl ht)) hF') ?_)
  rintro e a1 w1 ⟨z, s1, rfl, h1, h2, h3⟩
  have h3' := h3.mono (W' := fun t => t ∈ writes x ∨ t ∈ writes y) (fun t ht => .inl ht)
  cases z with
  | normal =>
    refine wp_mono (hy R s1 a1 w1 _ h2 (fun t ht => by rw [h3.size]; exact hsz t (.inr ht)) h1) ?_
    rintro e a2 w2 ⟨z, s2, rfl, k1, k2, k3⟩
    exact ⟨z, s2, rfl, k1, k2, h3'.trans (k3.mono (fun t ht => .inr ht))⟩
  | exit id => exact ⟨.exit id, s1, rfl, h1, h2, h3'⟩
  | ret => exact ⟨.ret, s1, rfl, h1, h2, h3'⟩

theorem cond_ok {c : Operand} {x y : Code} (hx : BodyOK P C x) (hy : BodyOK P C y) : BodyOK P C (.cond c x y) := by
  intro R s a w F hs hsz hF
  simp only [ev] at hF
  split at hF
  · rename_i b hc
    have hev : a.eval c = .bool b := by
      obtain ⟨M, _, _, _, hr⟩ := hs
      have := eval_rel hr c
      rw [hc] at this
      exact relBool this
    have hF' := holds_bind.1 hF
    simp only [Tree.holds] at hF'
    have fin : ∀ {W : Nat → Prop} {z : Ex} {s' : St} {a' : Act} {w' : World}, F (z, s'.remark s) → IsSt R s' a' w' → Apart W s.clean a s' a' → (∀ t, W t → t ∈ writes (.cond c x y)) →
        ∃ z' s'', z.to = Ex.to z' ∧ F (z', s'') ∧ IsSt R s'' a' w' ∧ Apart (fun t => t ∈ writes (.cond c x y)) s a s'' a' :=
      fun h1 h2 h3 h4 => ⟨_, _, rfl, h1, h2.remark s, h3.remark.mono h4⟩
    have go : ∀ (z : Code), BodyOK P C z → (∀ t ∈ writes z, t ∈ writes (.cond c x y)) → (ev C z s.clean).holds (fun p => F (p.1, p.2.remark s)) →
        z.wp P (fun e a' w' => ∃ z' s'', e = Ex.to z' ∧ F (z', s'') ∧ IsSt R s'' a' w' ∧ Apart (fun t => t ∈ writes (.cond c x y)) s a s'' a') a w := by
      intro z hz hw h
      refine wp_mono (hz R s.clean a w _ hs.clean (fun t ht => hsz t (hw t ht)) h) ?_
      rintro e a1 w1 ⟨z', s1, rfl, h1, h2, h3⟩
      exact fin h1 h2 h3 hw
    have wx : ∀ t ∈ writes x, t ∈ writes (.cond c x y) := fun t ht => by simp only [writes, List.mem_append]; exact .inl ht
    have wy : ∀ t ∈ writes y, t ∈ writes (.cond c x y) := fun t ht => by simp only [writes, List.mem_append]; exact .inr ht
    have plain : (b = true → (ev C x s.clean).holds (fun p => F (p.1, p.2.remark s))) → (b = false → (ev C y s.clean).holds (fun p => F (p.1, p.2.remark s))) →
        (Code.cond c x y).wp P (fun e a' w' => ∃ z' s'', e = Ex.to z' ∧ F (z', s'') ∧ IsSt R s'' a' w' ∧ Apart (fun t => t ∈ writes (.cond c x y)) s a s'' a') a w := by
      intro h1 h2
      refine wp_cond hev ?_
      cases b with
      | true => exact go x hx wx (h1 rfl)
      | false => exact go y hy wy (h2 rfl)
    cases hdec : C.dec with
    | true =>
      rw [hdec] at hF'
      obtain ⟨k1, k2⟩ := holds_pickT hF'
      exact plain k1 k2
    | false =>
      rw [hdec] at hF'
      simp only at hF'
      unfold fork at hF'
      split at hF'
      · rename_i ps sa qs sb e1 e2
        split at hF'
        · rename_i m hm
          obtain ⟨k1, k2⟩ := needs_holds hF'
          obtain ⟨k3, k4⟩ := needs_holds k2
          have mg : ∀ {a' w'} , IsSt R (if b then sa else sb) a' w' → Apart (fun t => t ∈ dedupN (writes x ++ writes y)) s.clean a (if b then sa else sb) a' →
              ∃ z' s'', Exit.normal = Ex.to z' ∧ F (z', s'') ∧ IsSt R s'' a' w' ∧ Apart (fun t => t ∈ writes (.cond c x y)) s a s'' a' := by
            intro a' w' h1 h2
            obtain ⟨h3, h4⟩ := merge_sound hm h1 h2
            exact fin (z := .normal) k4 h3 h4 (fun t ht => by simpa only [writes] using mem_dedup.1 ht)
          refine wp_cond hev ?_
          cases b with
          | true =>
            refine wp_mono (hx R s.clean a w _ hs.clean (fun t ht => hsz t (wx t ht)) (single_holds e1 (k1 rfl))) ?_
            rintro e a1 w1 ⟨z', s1, rfl, h1, h2, h3⟩
            simp only [Prod.mk.injEq] at h1
            obtain ⟨rfl, rfl⟩ := h1
            exact mg h2 (h3.mono (fun t ht => mem_dedup.2 (List.mem_append.2 (.inl ht))))
          | false =>
            refine wp_mono (hy R s.clean a w _ hs.clean (fun t ht => hsz t (wy t ht)) (single_holds e2 (k3 rfl))) ?_
            rintro e a1 w1 ⟨z', s1, rfl, h1, h2, h3⟩
            simp only [Prod.mk.injEq] at h1
            obtain ⟨rfl, rfl⟩ := h1
            exact mg h2 (h3.mono (fun t ht => mem_dedup.2 (List.mem_append.2 (.inr ht))))
        · exact plain hF'.1 hF'.2
      · exact plain hF'.1 hF'.2
  · exact hF.elim

theorem leaves_block {Q : Ex → Act → World → Prop} {id : Nat} {x : Ex} {a : Act} {w : World} {Q' : Exit → Act → World → Prop} (h : Q' (leaves id x).to a w) : Exit.inBlock id Q' x.to a w := by
  cases x with
  | normal => exact h
  | ret => exact h
  | exit j =>
    simp only [leaves] at h
    simp only [Ex.to, Exit.inBlock]
    split at h
    · rename_i hb
      rw [if_pos (Nat.eq_of_beq_eq_true hb)]
      exact h
    · rename_i hb
      rw [if_neg (fun hh => by rw [hh] at hb; simp at hb)]
      exact h

theorem block_ok {id : Nat} {c : Code} (hc : BodyOK P C c) (he : ∀ s, ev C (.block id c) s = (ev C c s).bind fun x => .leaf (leaves id x.1, x.2)) : BodyOK P C (.block id c) := by
  intro R s a w F hs hsz hF
  rw [he] at hF
  have hF' := holds_bind.1 hF
  refine wp_block (wp_mono (hc R s a w _ hs hsz hF') ?_)
  rintro e a1 w1 ⟨z, s1, rfl, h1, h2, h3⟩
  refine leaves_block (Q := fun _ _ _ => True) ?_
  exact ⟨_, s1, rfl, h1, h2, h3⟩

theorem loop_ok {id : Nat} {body : Code} (hB : BodyOK P C body) (hL : ∀ L, C.Λ id = some L → ∀ (s : St) (F : Ex × St → Prop), (L.sum s).holds F → ∃ n, (iter L (ev C body) n s).holds F) : BodyOK P C (.block id (.loop body)) := by
  intro R s a w F hs hsz hF
  simp only [ev] at hF
  split at hF
  · exact hF.elim
  rename_i L hLam
  split at hF
  · exact hF.elim
  rename_i s0 hp
  split at hF
  · exact hF.elim
  · exact hF.elim
  rename_i s1 hr hall
  have hF' := holds_bind.1 hF
  obtain ⟨n, hn⟩ := hL L hLam s1 _ hF'
  obtain ⟨hs0, hlk, hbx⟩ := promote_sound hp hs
  have hprom : ∀ t, ¬ t ∈ writes body → s0.look t = s.look t := by
    intro t ht
    refine hlk t (fun p hp' heq => ht ?_)
    rw [List.all_eq_true] at hall
    exact heq ▸ memN_iff.1 (hall p hp')
  have H1 := restrict_spec hr
  obtain ⟨M, rfl, hb, I, hrel⟩ := hs0
  refine wp_block (loop_wp (L := L) (R := subRef M L (R.tab.keeps I.old)) hB (enter I hb hrel H1) hsz hn ?_)
  intro x sx s2 a' w' hx h1 h2 H hf
  refine leaves_block (Q := fun _ _ _ => True) ?_
  obtain ⟨q1, q2⟩ := leave I hb hrel H1 h2 H hf
  refine ⟨_, _, rfl, h1, q1, q2.size, q2.defers, q2.tmps, fun t ht => ?_, fun b B hB => hbx b B (q2.boxes b B hB)⟩
  rcases q2.look t ht with h | h
  · exact .inl h
  · exact .inr (h.trans (hprom t ht))

/-- Code does what the evaluator says. -/
theorem ev_ok (TOK : TysOK P C.τ) (GC : CtrsOK P C.Γ) (hmix : P.follows .mixedOrders = true) (c : Code) : LamOK C c → BodyOK P C c ∧ ∀ body, c = .loop body → BodyOK P C body := by
  have stuck : ∀ c : Code, (∀ s, ev C c s = .stuck) → BodyOK P C c := fun c h R s a w F _ _ hF => by rw [h] at hF; exact hF.elim
  induction c with
  | skip => exact fun _ => ⟨fun R s a w F hs _ hF => wp_skip ⟨.normal, s, rfl, hF, hs, Apart.refl _ _ _⟩, nofun⟩
  | region id ops draw => exact fun _ => ⟨region_ok TOK GC hmix id ops draw, nofun⟩
  | seq x y hx hy => exact fun h => ⟨seq_ok (hx h.1).1 (hy h.2).1, nofun⟩
  | cond c x y hx hy => exact fun h => ⟨cond_ok (hx h.1).1 (hy h.2).1, nofun⟩
  | block id c hc =>
    refine fun h => ⟨?_, nofun⟩
    cases c with
    | loop body => exact loop_ok ((hc h.1).2 body rfl) (h.2 body rfl)
    | _ => exact block_ok (hc h.1).1 (fun s => rfl)
  | loop body hb => exact fun h => ⟨stuck _ (fun s => rfl), fun b hh => by cases hh; exact (hb h).1⟩
  | exit id => exact fun _ => ⟨fun R s a w F hs _ hF => wp_exit ⟨.exit id, s, rfl, hF, hs, Apart.refl _ _ _⟩, nofun⟩
  | ret => exact fun _ => ⟨fun R s a w F hs _ hF => wp_ret ⟨.ret, s, rfl, hF, hs, Apart.refl _ _ _⟩, nofun⟩
  | rangeFunc f ps x y hx hy => exact fun _ => ⟨stuck _ (fun s => rfl), nofun⟩
  | scope c hc =>
    refine fun h => ⟨fun R s a w F hs hsz hF => wp_scope_straight (wp_mono ((hc h).1 R s a w F hs hsz hF) ?_), nofun⟩
    rintro e a1 w1 ⟨z, s1, rfl, h1, h2, h3⟩
    cases z <;> exact ⟨_, s1, rfl, h1, h2, h3⟩
  | label l => exact fun _ => ⟨fun R s a w F hs _ hF => wp_label ⟨.normal, s, rfl, hF, hs, Apart.refl _ _ _⟩, nofun⟩
  | goto l => exact fun _ => ⟨stuck _ (fun s => rfl), nofun⟩
  | refuse w => exact fun _ => ⟨stuck _ (fun s => rfl), nofun⟩
end
end Go.Ev
/- Values in range. -/
set_option linter.unusedVariables false
set_option linter.unusedSimpArgs false
namespace Go.Ev

def wt : (g : GTy) → den g → Prop
  | .bool, _ => True
  | .int k, n => k.has n
  | .str, s => List.length (α := UInt8) s ≤ maxStr
  | .unit, _ => True
  | .prod a b, x => wt a x.1 ∧ wt b x.2
  | .arr n a, xs => List.length (α := den a) xs = n ∧ ∀ x : den a, x ∈ (show List (den a) from xs) → wt a x
  | .sl a, xs => List.length (α := den a) xs ≤ maxRow ∧ List.length (α := den a) xs * lbytes a ≤ maxRow ∧ ∀ x : den a, x ∈ (show List (den a) from xs) → wt a x

/-- Texts and slices that are not long. -/
def small : (g : GTy) → den g → Prop
  | .bool, _ => True
  | .int _, _ => True
  | .str, s => List.length (α := UInt8) s ≤ 1048576
  | .unit, _ => True
  | .prod a b, x => small a x.1 ∧ small b x.2
  | .arr n a, xs => ∀ x : den a, x ∈ (show List (den a) from xs) → small a x
  | .sl a, xs => List.length (α := den a) xs ≤ 1048576 ∧ ∀ x : den a, x ∈ (show List (den a) from xs) → small a x

theorem encL_all {α : Type} {f : α → List Value → Prop} {p : α → Prop} (h : ∀ x c, f x c → p x) : ∀ {xs : List α} {cs : List Value}, encL f xs cs → ∀ x, x ∈ xs → p x
  | [], _, _, x, hx => by cases hx
  | y :: ys, _, ⟨c, d, _, a, b⟩, x, hx => by
    rcases List.mem_cons.1 hx with rfl | hx
    · exact h _ _ a
    · exact encL_all h b x hx

theorem Enc.wt {w : World} {S : Stab} : ∀ {g : GTy} {x : den g} {cs : List Value}, Enc w S g x cs → Ev.wt g x
  | .bool, _, _, _ => trivial
  | .int _, _, _, e => e.2
  | .str, _, _, e => e.2
  | .unit, _, _, _ => trivial
  | .prod _ _, _, _, ⟨c, d, e, a, b⟩ => ⟨Enc.wt a, Enc.wt b⟩
  | .arr _ a, xs, _, ⟨e, h⟩ => ⟨e, fun x hx => encL_all (f := Enc w S a) (p := Ev.wt a) (fun _ _ k => Enc.wt k) h x hx⟩
  | .sl a, xs, _, ⟨ad, cap, e, h1, h2, h3, h4⟩ => ⟨h3, h2, by
      rcases h4 with h4 | ⟨blk, off, ds, e1, e2, e3⟩
      · intro x hx
        rw [show (show List (den a) from xs) = [] from h4] at hx
        cases hx
      · exact fun x hx => encL_all (f := Enc w S a) (p := Ev.wt a) (fun _ _ k => Enc.wt k) e2 x hx⟩

def wtD : (gs : List GTy) → dens gs → Prop
  | [], _ => True
  | [g], x => wt g x
  | g :: h :: gs, x => wt g x.1 ∧ wtD (h :: gs) x.2

def smallD : (gs : List GTy) → dens gs → Prop
  | [], _ => True
  | [g], x => small g x
  | g :: h :: gs, x => small g x.1 ∧ smallD (h :: gs) x.2

theorem EncD.wt {w : World} {S : Stab} : ∀ {gs : List GTy} {x : dens gs} {us : List Value}, EncD w S gs x us → wtD gs x
  | [], _, _, _ => trivial
  | [_], _, _, ⟨cs, h1, _⟩ => h1.wt
  | _ :: _ :: _, _, _, ⟨cs, us', h1, _, h3⟩ => ⟨h1.wt, EncD.wt h3⟩
end Go.Ev
/- A function keeps the contract that the evaluator reckons. -/
set_option linter.unusedVariables false
set_option linter.unusedSimpArgs false
namespace Go.Ev
section
variable {P : Program} {C : Ctx}

theorem lk_number {α : Type} (t : Nat) : ∀ (l : List α) (n : Nat), lk t (number n l) = if n ≤ t then l[t - n]? else none
  | [], n => by simp [number, lk]
  | v :: l, n => by
    simp only [number, lk]
    cases hb : Nat.beq n t with
    | true =>
      have := Nat.eq_of_beq_eq_true hb
      subst this
      simp
    | false =>
      have hne : n ≠ t := fun h => by rw [h] at hb; simp at hb
      rw [lk_number t l (n + 1)]
      by_cases h : n ≤ t
      · rw [if_pos (by omega), if_pos h, show t - n = (t - (n + 1)) + 1 by omega]
        simp
      · rw [if_neg (by omega), if_neg h]

theorem loadAddr {M : Mem} {R : Ref} {τ : Tys} (TOK : TysOK P τ) (I : InvM R M) {t : TypeId} {i : TInfo} (hi : τ t = some i) {va : AV} {u : Value} (hr : RelV M va u) {e : Eff} (h : loadEff i.g (argOf M.bs va) = some e) :
    ∃ v, (do loadVar t (← asAddr u) : Sem Value).run P M.w = .ok v M.w ∧ RelV M e.av v ∧ ∃ y, e.av = .val i.g y := by
  obtain ⟨v, h1, h2, h3, h4⟩ := loadEff_sound TOK I hi (ArgR.of hr) h
  refine ⟨v, ?_, h3, h4⟩
  have hu : ∃ blk off, u = .pointer (some ⟨blk, off, none⟩) := by
    unfold loadEff argOf at h
    cases va with
    | ptr b g p =>
      simp only [RelV] at hr
      obtain ⟨blk, d, B, _, _, _, hu⟩ := hr
      exact ⟨_, _, hu⟩
    | ref g y =>
      simp only [RelV] at hr
      obtain ⟨blk, off, cs, _, _, hu⟩ := hr
      exact ⟨_, _, hu⟩
    | undef => simp at h
    | cst _ => simp at h
    | val _ _ => simp at h
    | tip _ => simp at h
    | tup _ => simp at h
    | clo _ _ => simp at h
  obtain ⟨blk, off, rfl⟩ := hu
  simpa [Instr.loadAt, Instr.sureAddr, asAddr] using h1

def resF (tmps : Array Value) : ResultVar → Sem Value
  | .tmp t => pure (tmps.getD t undef)
  | .cell a t => do loadVar t (← asAddr (tmps.getD a undef))

theorem results_eq (fn : Func) (tmps : Array Value) : results fn tmps = (do let vs ← fn.results.mapM (resF tmps); pure (if h : vs.size = 1 then vs[0] else .tuple vs)) := rfl

theorem resArgs_sound {M : Mem} {R : Ref} (TOK : TysOK P C.τ) (I : InvM R M) {s : St} (hb : M.bs = s.boxes) {tmps : Array Value} (hr : ∀ t, RelV M (s.look t) (tmps.getD t undef)) : ∀ {l : List ResultVar} {aas : List Arg}, resArgs C s l = some aas →
    ∃ us, (l.mapM (resF tmps)).run P M.w = .ok us M.w ∧ ArgsR M aas us
  | [], aas, h => by
    simp only [resArgs, Option.some.injEq] at h
    subst h
    exact ⟨[], by simp, trivial⟩
  | r :: l, aas, h => by
    simp only [resArgs] at h
    split at h
    · rename_i a aas' h1 h2
      simp only [Option.some.injEq] at h
      subst h
      obtain ⟨us, q1, q2⟩ := resArgs_sound TOK I hb hr h2
      have one : ∃ u, (resF tmps r).run P M.w = .ok u M.w ∧ ArgR M a u := by
        cases r with
        | tmp t =>
          simp only [resArg, Option.some.injEq] at h1
          subst h1
          refine ⟨tmps.getD t undef, rfl, ?_⟩
          have : s.arg (.tmp t) = argOf M.bs (s.look t) := by rw [hb]; rfl
          rw [this]
          exact ArgR.of (hr t)
        | cell ad t =>
          simp only [resArg] at h1
          split at h1
          · rename_i i hi
            split at h1
            · rename_i e he
              simp only [Option.some.injEq] at h1
              subst h1
              have : s.arg (.tmp ad) = argOf M.bs (s.look ad) := by rw [hb]; rfl
              rw [this] at he
              obtain ⟨v, k1, k2, y, k3⟩ := loadAddr TOK I hi (hr ad) he
              exact ⟨v, k1, k2, fun b B hb' _ => by rw [k3] at hb'; simp [boxOf] at hb'⟩
            · cases h1
          · cases h1
      obtain ⟨u, k1, k2⟩ := one
      exact ⟨u :: us, by rw [List.mapM_cons]; simp only [Sem.run_bind, k1, Result.andThen_ok, q1]; rfl, k2, q2⟩
    · cases h

theorem results_run {fn : Func} {tmps : Array Value} {w : World} {us : List Value} (h : (fn.results.toList.mapM (resF tmps)).run P w = .ok us w) :
    (results fn tmps).run P w = .ok (match us with | [u] => u | _ => .tuple us.toArray) w := by
  rw [results_eq, Array.mapM_eq_mapM_toList]
  have : (List.toArray <$> fn.results.toList.mapM (resF tmps) : Sem (Array Value)).run P w = .ok us.toArray w := by
    simp [h]
  simp only [Sem.run_bind]
  rw [this]
  simp only [Result.andThen_ok]
  rcases us with _ | ⟨u, _ | ⟨v, us⟩⟩ <;> simp

/-- A function keeps its contract. -/
theorem ctr_of_ev (TOK : TysOK P C.τ) (GC : CtrsOK P C.Γ) (hmix : P.follows .mixedOrders = true) {f : Nat} {fn : Func} {body : Code} {c : Ctr} (hf : P.funcs[f]? = some fn) (hname : (fn.name == "runtime.NumGoroutine") = false) (hbody : fn.body = some body)
    (hlam : LamOK C body) (h : ∀ x : dens c.args, wtD c.args x → (∀ p, c.pre = some p → p x) → (evFn C fn (resL c.args x) c.res).holds (fun y => y = c.fn x)) : CtrOK P f c := by
  refine ⟨⟨fn, hf, by rw [hbody]; rfl, hname⟩, fun w S us x hS hT henc hpre => ?_⟩
  have hh := h x henc.wt hpre
  simp only [evFn, hbody] at hh
  split at hh
  · exact hh.elim
  rename_i hsz
  have hh' := holds_bind.1 hh
  let R : Ref := ⟨w, fun _ => False, S, hT⟩
  let M : Mem := ⟨w, S, fun _ => undef, []⟩
  have I : InvM R M := ⟨rfl, rfl, rfl, Nat.le_refl _, fun _ _ _ => rfl, Keeps.refl _ _, fun b o hs => ⟨.inl hs, hS b o hs⟩, fun b d B hb => by simp [M, lk] at hb, fun b c d B d' B' _ hb => by simp [M, lk] at hb⟩
  have hrl := resL_rel (M := M) (gs := c.args) (x := x) (us := us) henc
  let a : Act := { tmps := us.toArray ++ Array.replicate (fn.ntmps - us.toArray.size) undef, defers := [] }
  have hst : IsSt R { tmps := number 0 (resL c.args x), boxes := [] } a w := by
    refine ⟨M, rfl, rfl, I, fun t => ?_⟩
    show RelV M ((lk t (number 0 (resL c.args x))).getD .undef) _
    rw [lk_number]
    simp only [Nat.zero_le, if_true, Nat.sub_zero]
    cases hv : (resL c.args x)[t]? with
    | none => simp [RelV]
    | some v =>
      obtain ⟨u, h1, h2⟩ := hrl.get t hv
      have hlt := (List.getElem?_eq_some_iff.1 h1).1
      have : a.tmps.getD t undef = u := by
        simp only [a, Array.getD_eq_getD_getElem?]
        rw [Array.getElem?_append_left (by simpa using hlt)]
        simp [h1]
      rw [this]
      simpa using h2
  have hall : ∀ t ∈ writes body, t < a.tmps.size := by
    intro t ht
    rw [List.all_eq_true] at hsz
    have := hsz t ht
    rw [Nat.blt_eq] at this
    simp [a]
    omega
  refine calls_of_wp hf hbody (wp_mono ((ev_ok TOK GC hmix body hlam).1 R _ a w _ hst hall hh') ?_)
  rintro e a' w' ⟨z, s', rfl, h1, ⟨M', rfl, hb', I', hr'⟩, hap⟩
  have fin : (evRes C fn c.res (.normal, s')).holds (fun y => y = c.fn x) →
      a'.defers = [] ∧ ∃ v, (results fn a'.tmps).run P M'.w = .ok v M'.w ∧ ∃ v', Ending.returned v = Ending.returned v' ∧ Grows w M'.w ∧ ∃ N : Stab, (∀ b o, N b o → w.heap.size ≤ b ∧ b < M'.w.heap.size) ∧ RelRes M'.w (fun b o => S b o ∨ N b o) c.res (c.fn x) v' := by
    intro hF
    simp only [evRes] at hF
    split at hF
    · exact hF.elim
    rename_i aas has
    split at hF
    · exact hF.elim
    rename_i y ws htk
    simp only [Tree.holds] at hF
    subst hF
    obtain ⟨us', q1, q2⟩ := resArgs_sound TOK I' hb' hr' has
    obtain ⟨_, S', fz, henc'⟩ := takes_sound I' q2 htk
    refine ⟨hap.defers, _, results_run q1, _, rfl, ⟨I'.os, I'.tape, I'.output, I'.size, fun k hk => I'.frame k hk id⟩, fun b o => S' b o ∧ w.heap.size ≤ b, fun b o hN => ⟨hN.2, (fz.inv.here b o hN.1).2⟩, us', ?_, by rcases us' with _ | ⟨u, _ | ⟨v, us⟩⟩ <;> rfl⟩
    refine henc'.keeps (fun b o hs => ⟨?_, rfl⟩)
    rcases (fz.inv.here b o hs).1 with h3 | h3 | h3
    · exact .inl h3
    · exact .inr ⟨hs, h3⟩
    · exact h3.elim
  cases z with
  | exit id => exact h1.elim
  | normal => exact fin h1
  | ret => exact fin h1
end
end Go.Ev
/- Loops told by plain functions. -/
set_option linter.unusedVariables false
set_option linter.unusedSimpArgs false
namespace Go.Ev

/-- What a slot holds at a loop's head. -/
inductive Sh where
  | val (g : GTy)
  | tip (b : Nat)
  | ptr (b : Nat) (g : GTy)
  | nil
  | undef
inductive BSh where
  | var (g : GTy)
  | row (e : Nat) (g : GTy) (fz : Bool)

@[reducible] def ShT : List (Nat × Sh) → Type
  | [] => Unit
  | (_, .val g) :: l => den g × ShT l
  | (_, .tip _) :: l => ShT l
  | (_, .ptr _ _) :: l => ShT l
  | (_, .nil) :: l => ShT l
  | (_, .undef) :: l => ShT l
@[reducible] def ShB : List (Nat × BSh) → Type
  | [] => Unit
  | (_, .var g) :: l => den g × ShB l
  | (_, .row _ g _) :: l => List (den g) × ShB l

def mkT : (l : List (Nat × Sh)) → ShT l → List (Nat × AV)
  | [], _ => []
  | (t, .val g) :: l, x => (t, .val g x.1) :: mkT l x.2
  | (t, .tip b) :: l, x => (t, .tip b) :: mkT l x
  | (t, .ptr b g) :: l, x => (t, .ptr b g []) :: mkT l x
  | (t, .nil) :: l, x => (t, .cst (.slice none 0 0)) :: mkT l x
  | (t, .undef) :: l, x => (t, .undef) :: mkT l x
def mkB : (l : List (Nat × BSh)) → ShB l → List (Nat × Bool × Box)
  | [], _ => []
  | (b, .var g) :: l, x => (b, false, .var g x.1) :: mkB l x.2
  | (b, .row e g f) :: l, x => (b, false, .row e g x.1 f) :: mkB l x.2

def asV (g : GTy) : AV → Option (den g)
  | .val h x => match GTy.dec h g with
    | .isTrue e => some (e ▸ x)
    | .isFalse _ => none
  | _ => none
def isTip (b : Nat) : AV → Bool
  | .tip c => Nat.beq c b
  | _ => false
def isPtr (b : Nat) (g : GTy) : AV → Bool
  | .ptr c h [] => Nat.beq c b && (match GTy.dec h g with | .isTrue _ => true | .isFalse _ => false)
  | _ => false
def isNil : AV → Bool
  | .cst (.slice none 0 0) => true
  | _ => false
def asVar (g : GTy) : Box → Option (den g)
  | .var h x => match GTy.dec h g with
    | .isTrue e => some (e ▸ x)
    | .isFalse _ => none
  | _ => none
def asRow (e : Nat) (g : GTy) (f : Bool) : Box → Option (List (den g))
  | .row d h x f' => match GTy.dec h g, Nat.beq d e, f', f with
    | .isTrue q, true, true, true => some (q ▸ x)
    | .isTrue q, true, false, false => some (q ▸ x)
    | _, _, _, _ => none
  | _ => none

theorem asV_eq {g : GTy} {v : AV} {x : den g} (h : asV g v = some x) : v = .val g x := by
  cases v <;> simp only [asV] at h <;> try (cases h; done)
  split at h
  · rename_i e _
    subst e
    simp only [Option.some.injEq] at h
    rw [h]
  · cases h
theorem isTip_eq {b : Nat} {v : AV} (h : isTip b v = true) : v = .tip b := by
  cases v <;> simp only [isTip] at h <;> try (cases h; done)
  rw [Nat.eq_of_beq_eq_true h]
theorem isPtr_eq {b : Nat} {g : GTy} {v : AV} (h : isPtr b g v = true) : v = .ptr b g [] := by
  cases v <;> simp only [isPtr] at h <;> try (cases h; done)
  rename_i c k p
  cases p with
  | cons _ _ => simp at h
  | nil =>
    simp only [Bool.and_eq_true] at h
    rw [Nat.eq_of_beq_eq_true h.1]
    have h2 := h.2
    split at h2
    · rename_i e _; rw [e]
    · cases h2
theorem isNil_eq {v : AV} (h : isNil v = true) : v = .cst (.slice none 0 0) := by
  unfold isNil at h
  split at h
  · rfl
  · cases h
theorem asVar_eq {g : GTy} {v : Box} {x : den g} (h : asVar g v = some x) : v = .var g x := by
  cases v <;> simp only [asVar] at h <;> try (cases h; done)
  split at h
  · rename_i e _
    subst e
    simp only [Option.some.injEq] at h
    rw [h]
  · cases h
theorem asRow_eq {e : Nat} {g : GTy} {f : Bool} {v : Box} {x : List (den g)} (h : asRow e g f v = some x) : v = .row e g x f := by
  cases v <;> simp only [asRow] at h <;> try (cases h; done)
  rename_i d k xs f'
  cases hd : Nat.beq d e with
  | false => rw [hd] at h; cases hq : GTy.dec k g <;> rw [hq] at h <;> simp at h
  | true =>
    have := Nat.eq_of_beq_eq_true hd
    subst this
    rw [hd] at h
    cases hq : GTy.dec k g with
    | isFalse _ => rw [hq] at h; simp at h
    | isTrue q =>
      subst q
      rw [hq] at h
      cases f <;> cases f' <;> simp at h <;> rw [h]

def unT : (l : List (Nat × Sh)) → List (Nat × AV) → Option (ShT l)
  | [], m => match m with
    | [] => some ()
    | _ :: _ => none
  | (t, .val g) :: l, m => match m with
    | [] => none
    | (u, v) :: m => match Nat.beq u t, asV g v, unT l m with
      | true, some y, some r => some (y, r)
      | _, _, _ => none
  | (t, .tip b) :: l, m => match m with
    | [] => none
    | (u, v) :: m => match Nat.beq u t, isTip b v with
      | true, true => unT l m
      | _, _ => none
  | (t, .ptr b g) :: l, m => match m with
    | [] => none
    | (u, v) :: m => match Nat.beq u t, isPtr b g v with
      | true, true => unT l m
      | _, _ => none
  | (t, .nil) :: l, m => match m with
    | [] => none
    | (u, v) :: m => match Nat.beq u t, isNil v with
      | true, true => unT l m
      | _, _ => none
  | (t, .undef) :: l, m => match m with
    | [] => none
    | (u, v) :: m => match Nat.beq u t, isUndef v with
      | true, true => unT l m
      | _, _ => none

def unB : (l : List (Nat × BSh)) → List (Nat × Bool × Box) → Option (ShB l)
  | [], m => match m with
    | [] => some ()
    | _ :: _ => none
  | (b, .var g) :: l, m => match m with
    | [] => none
    | (c, d, B) :: m => match Nat.beq c b, d, asVar g B, unB l m with
      | true, false, some y, some r => some (y, r)
      | _, _, _, _ => none
  | (b, .row e g f) :: l, m => match m with
    | [] => none
    | (c, d, B) :: m => match Nat.beq c b, d, asRow e g f B, unB l m with
      | true, false, some y, some r => some (y, r)
      | _, _, _, _ => none

theorem unT_eq : ∀ {l : List (Nat × Sh)} {m : List (Nat × AV)} {x : ShT l}, unT l m = some x → m = mkT l x
  | [], [], _, _ => rfl
  | [], _ :: _, _, h => by simp [unT] at h
  | (t, .val g) :: l, [], _, h => by simp [unT] at h
  | (t, .val g) :: l, (u, v) :: m, x, h => by
    simp only [unT] at h
    split at h
    · rename_i y r h1 h2 h3
      simp only [Option.some.injEq] at h
      subst h
      rw [Nat.eq_of_beq_eq_true h1, asV_eq h2, unT_eq h3]
      rfl
    · cases h
  | (t, .tip b) :: l, [], _, h => by simp [unT] at h
  | (t, .tip b) :: l, (u, v) :: m, x, h => by
    simp only [unT] at h
    split at h
    · rename_i h1 h2
      rw [Nat.eq_of_beq_eq_true h1, isTip_eq h2, unT_eq h]
      rfl
    · cases h
  | (t, .ptr b g) :: l, [], _, h => by simp [unT] at h
  | (t, .ptr b g) :: l, (u, v) :: m, x, h => by
    simp only [unT] at h
    split at h
    · rename_i h1 h2
      rw [Nat.eq_of_beq_eq_true h1, isPtr_eq h2, unT_eq h]
      rfl
    · cases h
  | (t, .nil) :: l, [], _, h => by simp [unT] at h
  | (t, .nil) :: l, (u, v) :: m, x, h => by
    simp only [unT] at h
    split at h
    · rename_i h1 h2
      rw [Nat.eq_of_beq_eq_true h1, isNil_eq h2, unT_eq h]
      rfl
    · cases h
  | (t, .undef) :: l, [], _, h => by simp [unT] at h
  | (t, .undef) :: l, (u, v) :: m, x, h => by
    simp only [unT] at h
    split at h
    · rename_i h1 h2
      have h2' : v = .undef := by cases v <;> simp [isUndef] at h2 ⊢
      rw [Nat.eq_of_beq_eq_true h1, h2', unT_eq h]
      rfl
    · cases h

theorem unB_eq : ∀ {l : List (Nat × BSh)} {m : List (Nat × Bool × Box)} {x : ShB l}, unB l m = some x → m = mkB l x
  | [], [], _, _ => rfl
  | [], _ :: _, _, h => by simp [unB] at h
  | (t, .var g) :: l, [], _, h => by simp [unB] at h
  | (t, .var g) :: l, (u, d, v) :: m, x, h => by
    simp only [unB] at h
    split at h
    · rename_i y r h1 h3 h4
      simp only [Option.some.injEq] at h
      subst h
      rw [Nat.eq_of_beq_eq_true h1, asVar_eq h3, unB_eq h4]
      rfl
    · cases h
  | (t, .row e g f) :: l, [], _, h => by simp [unB] at h
  | (t, .row e g f) :: l, (u, d, v) :: m, x, h => by
    simp only [unB] at h
    split at h
    · rename_i y r h1 h3 h4
      simp only [Option.some.injEq] at h
      subst h
      rw [Nat.eq_of_beq_eq_true h1, asRow_eq h3, unB_eq h4]
      rfl
    · cases h

def mkS (ts : List (Nat × Sh)) (bs : List (Nat × BSh)) (x : ShT ts × ShB bs) : St := ⟨mkT ts x.1, mkB bs x.2⟩
def unS (ts : List (Nat × Sh)) (bs : List (Nat × BSh)) (s : St) : Option (ShT ts × ShB bs) :=
  match unT ts s.tmps, unB bs s.boxes with
  | some x, some y => some (x, y)
  | _, _ => none
theorem unS_eq {ts : List (Nat × Sh)} {bs : List (Nat × BSh)} {s : St} {x : ShT ts × ShB bs} (h : unS ts bs s = some x) : s = mkS ts bs x := by
  unfold unS at h
  split at h
  · rename_i a b h1 h2
    simp only [Option.some.injEq] at h
    subst h
    obtain ⟨t, b'⟩ := s
    simp only at h1 h2
    rw [unT_eq h1, unB_eq h2]
    rfl
  · cases h

/-- A loop, told. -/
structure LoopD where
  prom : List (Nat × Nat × Nat × GTy)
  ts : List (Nat × Sh)
  bs : List (Nat × BSh)
  pre : ShT ts × ShB bs → Prop
  out : ShT ts × ShB bs → Tree (Ex × (ShT ts × ShB bs))

def LoopD.spec (D : LoopD) : LoopSpec :=
  { prom := D.prom, keep := D.ts.map (·.1), boxes := D.bs.map (·.1),
    sum := fun s => match unS D.ts D.bs s with
      | some x => .need (D.pre x) ((D.out x).bind fun p => .leaf (p.1, mkS D.ts D.bs p.2))
      | none => .stuck }

/-- What is told of a loop is so. -/
def LoopOK (C : Ctx) (L : LoopSpec) (body : Code) : Prop := ∀ (s : St) (F : Ex × St → Prop), (L.sum s).holds F → ∃ n, (iter L (ev C body) n s).holds F

theorem Tree.bind_assoc {α β γ : Type} (f : α → Tree β) (g : β → Tree γ) : ∀ t : Tree α, (t.bind f).bind g = t.bind fun a => (f a).bind g
  | .leaf _ => rfl
  | .br _ t e => by simp only [Tree.bind, Tree.bind_assoc f g t, Tree.bind_assoc f g e]
  | .need _ t => by simp only [Tree.bind, Tree.bind_assoc f g t]
  | .stuck => rfl

def cut (L : LoopSpec) (p : Ex × St) : Tree (Ex × St) :=
  match restrict L p.2 with
  | none => .stuck
  | some s' => .leaf (p.1, s')

theorem iter_succ (L : LoopSpec) (f : St → Tree (Ex × St)) (n : Nat) (s : St) : iter L f (n + 1) s = ((f s).bind (cut L)).bind fun p => match p.1 with
    | .normal => iter L f n p.2
    | e => .leaf (e, p.2) := by
  rw [Tree.bind_assoc]
  simp only [iter]
  congr 1
  funext ⟨e, s'⟩
  unfold cut
  simp only
  cases restrict L s' with
  | none => rfl
  | some s'' => cases e <;> simp only [Tree.bind]

/-- A round, read back by the loop's shape. -/
def roundOf (C : Ctx) (D : LoopD) (body : Code) (x : ShT D.ts × ShB D.bs) : Tree (Ex × Option (ShT D.ts × ShB D.bs)) :=
  ((ev C body (mkS D.ts D.bs x)).bind (cut D.spec)).bind fun p => .leaf (p.1, unS D.ts D.bs p.2)

section
variable {C : Ctx} {body : Code} {D : LoopD}

theorem loopD_ok {step : ShT D.ts × ShB D.bs → Tree (Ex × Option (ShT D.ts × ShB D.bs))} (hstep : ∀ x, roundOf C D body x = step x) (μ : ShT D.ts × ShB D.bs → Nat)
    (h : ∀ x, D.pre x → (step x).holds fun p => ∃ y, p.2 = some y ∧ match p.1 with
      | .normal => D.pre y ∧ μ y < μ x ∧ ∀ G, (D.out x).holds G → (D.out y).holds G
      | e => ∀ G, (D.out x).holds G → G (e, y)) : LoopOK C D.spec body := by
  intro s F hF
  simp only [LoopD.spec] at hF
  split at hF
  · rename_i x hx
    have hs := unS_eq hx
    subst hs
    obtain ⟨hp, hF⟩ := hF
    have hF' := holds_bind.1 hF
    have main : ∀ n x, μ x < n → D.pre x → (D.out x).holds (fun p => F (p.1, mkS D.ts D.bs p.2)) → (iter D.spec (ev C body) n (mkS D.ts D.bs x)).holds F := by
      intro n
      induction n with
      | zero => intro x hx; omega
      | succ n ih =>
        intro x hx hp ho
        rw [iter_succ]
        have hr := h x hp
        rw [← hstep] at hr
        refine holds_bind.2 (holds_mono ?_ (holds_bind.1 hr))
        rintro ⟨e, s'⟩ hy
        simp only [Tree.holds] at hy
        obtain ⟨y, h1, h2⟩ := hy
        have hs := unS_eq h1
        subst hs
        cases e with
        | normal =>
          simp only at h2 ⊢
          exact ih y (by omega) h2.1 (h2.2.2 _ ho)
        | exit id => exact h2 _ ho
        | ret => exact h2 _ ho
    exact ⟨μ x + 1, main _ x (by omega) hp hF'⟩
  · exact hF.elim

/-- A loop that ends one way, told by a function. -/
theorem loopD_ok1 {step : ShT D.ts × ShB D.bs → Tree (Ex × Option (ShT D.ts × ShB D.bs))} {o : ShT D.ts × ShB D.bs → Ex × (ShT D.ts × ShB D.bs)} (ho : ∀ x, D.out x = .leaf (o x))
    (hstep : ∀ x, roundOf C D body x = step x) (μ : ShT D.ts × ShB D.bs → Nat)
    (h : ∀ x, D.pre x → (step x).holds fun p => ∃ y, p.2 = some y ∧ match p.1 with
      | .normal => D.pre y ∧ μ y < μ x ∧ o y = o x
      | e => o x = (e, y)) : LoopOK C D.spec body := by
  refine loopD_ok hstep μ fun x hp => holds_mono ?_ (h x hp)
  rintro ⟨e, z⟩ ⟨y, h1, hy⟩
  refine ⟨y, h1, ?_⟩
  cases e with
  | normal => exact ⟨hy.1, hy.2.1, fun G hG => by rw [ho] at hG ⊢; rw [hy.2.2]; exact hG⟩
  | exit id => intro G hG; rw [ho] at hG; simp only at hy; rw [← hy]; exact hG
  | ret => intro G hG; rw [ho] at hG; simp only at hy; rw [← hy]; exact hG
end

/-! A function's loops -/

def loopsOf : Code → List (Nat × Code)
  | .seq a b => loopsOf a ++ loopsOf b
  | .cond _ a b => loopsOf a ++ loopsOf b
  | .loop c => loopsOf c
  | .scope c => loopsOf c
  | .block id c => match c with
    | .loop body => (id, body) :: loopsOf body
    | c => loopsOf c
  | _ => []
def loopB (id : Nat) (c : Code) : Code := (lk id (loopsOf c)).getD .skip

theorem lam_of {C : Ctx} : ∀ c : Code, (∀ id body, (id, body) ∈ loopsOf c → ∀ L, C.Λ id = some L → LoopOK C L body) → LamOK C c
  | .seq a b, h => ⟨lam_of a fun id body hm => h id body (by simp [loopsOf, hm]), lam_of b fun id body hm => h id body (by simp [loopsOf, hm])⟩
  | .cond _ a b, h => ⟨lam_of a fun id body hm => h id body (by simp [loopsOf, hm]), lam_of b fun id body hm => h id body (by simp [loopsOf, hm])⟩
  | .loop c, h => lam_of c h
  | .scope c, h => lam_of c h
  | .block id (.loop c), h => ⟨lam_of c fun id body hm => h id body (by simp [loopsOf, hm]), fun body hb L hL => by
      injection hb with hb
      subst hb
      exact h id c (by simp [loopsOf]) L hL⟩
  | .block id (.seq a b), h => ⟨lam_of (.seq a b) (by simpa [loopsOf] using h), fun body hb => nomatch hb⟩
  | .block id (.cond x a b), h => ⟨lam_of (.cond x a b) (by simpa [loopsOf] using h), fun body hb => nomatch hb⟩
  | .block id (.block j c), h => ⟨lam_of (.block j c) (by simpa [loopsOf] using h), fun body hb => nomatch hb⟩
  | .block id .skip, h | .block id (.region ..), h | .block id (.rangeFunc ..), h | .block id (.exit _), h | .block id (.label _), h | .block id (.goto _), h | .block id .ret, h | .block id (.refuse _), h => ⟨trivial, fun body hb => nomatch hb⟩
  | .block id (.scope c), h => ⟨lam_of (.scope c) (by simpa [loopsOf] using h), fun body hb => nomatch hb⟩
  | .skip, _ | .region .., _ | .rangeFunc .., _ | .exit _, _ | .label _, _ | .goto _, _ | .ret, _ | .refuse _, _ => trivial

/-! A loop whose rounds are carried out one by one -/

theorem runOps_congr {C C' : Ctx} (ht : C.τ = C'.τ) (hg : C.Γ = C'.Γ) : ∀ (l : List Oper) (s : St), runOps C l s = runOps C' l s
  | [], s => rfl
  | o :: l, s => by
    simp only [runOps, ht, hg]
    cases opEff C'.τ C'.Γ (o.dst.getD 0) o (s.args o) with
    | none => rfl
    | some e => simp only [runOps_congr ht hg l]
theorem effs_congr {C C' : Ctx} (ht : C.τ = C'.τ) (hg : C.Γ = C'.Γ) : ∀ (l : List Oper) (s : St), effs C l s = effs C' l s
  | [], s => rfl
  | o :: l, s => by
    simp only [effs, ht, hg]
    cases opEff C'.τ C'.Γ (o.dst.getD 0) o (s.args o) with
    | none => rfl
    | some e => simp only [effs_congr ht hg l]
theorem runBr_congr {C C' : Ctx} (ht : C.τ = C'.τ) (hg : C.Γ = C'.Γ) (hd : C.dec = C'.dec) (all : List Oper) : ∀ (l : List Oper) (s : St), runBr C all l s = runBr C' all l s
  | [], s => rfl
  | o :: l, s => by
    have ih := runBr_congr ht hg hd all l
    simp only [runBr, ht, hg, hd, ih]
theorem ev_congr {C C' : Ctx} (ht : C.τ = C'.τ) (hg : C.Γ = C'.Γ) (hd : C.dec = C'.dec) : ∀ (c : Code), (∀ id, id ∈ (loopsOf c).map (·.1) → C.Λ id = C'.Λ id) → ∀ s, ev C c s = ev C' c s
  | .region _ ops draw, h, s => by
    simp only [ev, runDraw, runOps_congr ht hg, effs_congr ht hg, runBr_congr ht hg hd]
  | .seq a b, h, s => by
    have ha := ev_congr ht hg hd a (fun id hm => h id (by simp only [loopsOf, List.map_append, List.mem_append]; exact .inl hm))
    have hb := ev_congr ht hg hd b (fun id hm => h id (by simp only [loopsOf, List.map_append, List.mem_append]; exact .inr hm))
    simp only [ev, ha]
    congr 1
    funext ⟨e, s'⟩
    cases e <;> simp only [hb]
  | .cond c a b, h, s => by
    have ha := ev_congr ht hg hd a (fun id hm => h id (by simp only [loopsOf, List.map_append, List.mem_append]; exact .inl hm))
    have hb := ev_congr ht hg hd b (fun id hm => h id (by simp only [loopsOf, List.map_append, List.mem_append]; exact .inr hm))
    simp only [ev, ha, hb, hd]
  | .block id (.loop body), h, s => by
    have := h id (by simp [loopsOf])
    simp only [ev, this]
  | .block id (.seq a b), h, s => by simp only [ev]; rw [← ev, ← ev, ev_congr ht hg hd (.seq a b) (by simpa [loopsOf] using h)]
  | .block id (.cond x a b), h, s => by
    have := ev_congr ht hg hd (.cond x a b) (by simpa [loopsOf] using h) s
    simp only [ev] at this ⊢
    rw [this]
  | .block id (.block j c), h, s => by
    have := ev_congr ht hg hd (.block j c) (by simpa [loopsOf] using h) s
    show (ev C (.block j c) s).bind _ = (ev C' (.block j c) s).bind _
    rw [this]
  | .block id (.region i ops d), h, s => by
    have := ev_congr ht hg hd (.region i ops d) (by simp [loopsOf]) s
    show (ev C (.region i ops d) s).bind _ = (ev C' (.region i ops d) s).bind _
    rw [this]
  | .block id (.scope c), h, s => by
    have := ev_congr ht hg hd (.scope c) (by simpa [loopsOf] using h) s
    show (ev C (.scope c) s).bind _ = (ev C' (.scope c) s).bind _
    rw [this]
  | .scope c, h, s => by simp only [ev]; exact ev_congr ht hg hd c h s
  | .block id .skip, h, s | .block id (.rangeFunc ..), h, s | .block id (.exit _), h, s | .block id (.label _), h, s | .block id (.goto _), h, s | .block id .ret, h, s | .block id (.refuse _), h, s => by simp only [ev]
  | .loop c, h, s => by simp only [ev]
  | .skip, _, _ | .rangeFunc .., _, _ | .exit _, _, _ | .label _, _, _ | .goto _, _, _ | .ret, _, _ | .refuse _, _, _ => by simp only [ev]

theorem iter_congr {L L' : LoopSpec} (hk : L.keep = L'.keep) (hb : L.boxes = L'.boxes) {f f' : St → Tree (Ex × St)} (hf : ∀ s, f s = f' s) : ∀ n s, iter L f n s = iter L' f' n s
  | 0, s => rfl
  | n + 1, s => by
    have hr : ∀ s, restrict L s = restrict L' s := fun s => by unfold restrict; rw [hk, hb]
    simp only [iter, hf, hr, iter_congr hk hb hf n]

def rounds (C : Ctx) (body : Code) (prom : List (Nat × Nat × Nat × GTy)) (keep boxes : List Nat) (n : Nat) : LoopSpec :=
  { prom := prom, keep := keep, boxes := boxes, sum := fun s => iter { prom := [], keep := keep, boxes := boxes, sum := fun _ => .stuck } (ev C body) n s }

theorem rounds_ok {C C' : Ctx} {body : Code} {prom : List (Nat × Nat × Nat × GTy)} {keep boxes : List Nat} {n : Nat} (ht : C.τ = C'.τ) (hg : C.Γ = C'.Γ) (hd : C.dec = C'.dec) (hl : ∀ id, id ∈ (loopsOf body).map (·.1) → C.Λ id = C'.Λ id) :
    LoopOK C (rounds C' body prom keep boxes n) body := by
  intro s F hF
  refine ⟨n, ?_⟩
  have : ∀ m t, iter (rounds C' body prom keep boxes n) (ev C body) m t = iter { prom := [], keep := keep, boxes := boxes, sum := fun _ => .stuck } (ev C' body) m t := iter_congr (L := rounds C' body prom keep boxes n) (L' := { prom := [], keep := keep, boxes := boxes, sum := fun _ => .stuck }) rfl rfl (ev_congr ht hg hd body hl)
  rw [this]
  exact hF

theorem rounds_ok0 {C C' : Ctx} {body : Code} {prom : List (Nat × Nat × Nat × GTy)} {keep boxes : List Nat} {n : Nat} (ht : C.τ = C'.τ) (hg : C.Γ = C'.Γ) (hd : C.dec = C'.dec) (hl : (loopsOf body).isEmpty = true) :
    LoopOK C (rounds C' body prom keep boxes n) body :=
  rounds_ok ht hg hd fun id hm => by
    rw [List.isEmpty_iff.1 hl] at hm
    simp at hm

theorem lk_mem {α : Type} {k : Nat} {v : α} : ∀ {l : List (Nat × α)}, nodupN (l.map (·.1)) = true → (k, v) ∈ l → lk k l = some v
  | (j, u) :: l, hn, hm => by
    simp only [List.map_cons, nodupN, Bool.and_eq_true, Bool.not_eq_true'] at hn
    rcases List.mem_cons.1 hm with e | hm
    · simp only [Prod.mk.injEq] at e
      obtain ⟨rfl, rfl⟩ := e
      simp [lk]
    · have ih := lk_mem hn.2 hm
      simp only [lk]
      cases hb : Nat.beq j k with
      | false => exact ih
      | true =>
        have := Nat.eq_of_beq_eq_true hb
        subst this
        have : memN j (l.map (·.1)) = true := memN_iff.2 (List.mem_map.2 ⟨_, hm, rfl⟩)
        rw [this] at hn
        simp at hn
  | [], _, hm => by cases hm

theorem lk_all {α : Type} {Q : Nat → α → Prop} : ∀ {l : List (Nat × α)}, (∀ p ∈ l, Q p.1 p.2) → ∀ {k v}, lk k l = some v → Q k v
  | (j, u) :: l, h, k, v, hk => by
    simp only [lk] at hk
    cases hb : Nat.beq j k with
    | true =>
      rw [hb] at hk
      simp only [Option.some.injEq] at hk
      have := Nat.eq_of_beq_eq_true hb
      subst this
      subst hk
      exact h (j, u) (by simp)
    | false =>
      rw [hb] at hk
      exact lk_all (fun p hp => h p (by simp [hp])) hk
  | [], _, _, _, hk => by simp [lk] at hk

def fnOf (P : Program) (f : Nat) : Func := (P.funcs[f]?).getD default
theorem fnOf_eq {P : Program} {f : Nat} (h : (P.funcs[f]?).isSome = true) : P.funcs[f]? = some (fnOf P f) := by
  unfold fnOf
  cases hh : P.funcs[f]? with
  | none => rw [hh] at h; cases h
  | some x => rfl
def bodyOf (fn : Func) : Code := fn.body.getD .skip
theorem bodyOf_eq {fn : Func} (h : fn.body.isSome = true) : fn.body = some (bodyOf fn) := by
  unfold bodyOf
  cases hh : fn.body with
  | none => rw [hh] at h; cases h
  | some x => rfl

theorem ctrs_nil {P : Program} : CtrsOK P (fun f => lk f []) := fun f c h => by simp [lk] at h
theorem ctrs_cons {P : Program} {n : Nat} {c : Ctr} {l : List (Nat × Ctr)} (h : CtrOK P n c) (t : CtrsOK P (fun f => lk f l)) : CtrsOK P (fun f => lk f ((n, c) :: l)) := fun f c' h' => by
  simp only [lk] at h'
  cases hb : Nat.beq n f with
  | true =>
    rw [hb] at h'
    simp only [Option.some.injEq] at h'
    have := Nat.eq_of_beq_eq_true hb
    subst this
    subst h'
    exact h
  | false =>
    rw [hb] at h'
    exact t f c' h'

theorem lp_nil {C : Ctx} {b : Code} : ∀ p ∈ ([] : List (Nat × LoopSpec)), LoopOK C p.2 (loopB p.1 b) := fun p hp => by cases hp
theorem lp_cons {C : Ctx} {b : Code} {id : Nat} {L : LoopSpec} {l : List (Nat × LoopSpec)} (h : LoopOK C L (loopB id b)) (t : ∀ p ∈ l, LoopOK C p.2 (loopB p.1 b)) : ∀ p ∈ (id, L) :: l, LoopOK C p.2 (loopB p.1 b) := fun p hp => by
  rcases List.mem_cons.1 hp with rfl | hp
  · exact h
  · exact t p hp

/-- What a tree comes to. -/
def Tree.val {α : Type} (d : α) : Tree α → α
  | .leaf a => a
  | .br c t e => bif c then t.val d else e.val d
  | .need _ t => t.val d
  | .stuck => d
/-- Whatever way is taken, what must hold does. -/
def Tree.safe {α : Type} : Tree α → Prop
  | .leaf _ => True
  | .br c t e => (c = true → t.safe) ∧ (c = false → e.safe)
  | .need p t => p ∧ t.safe
  | .stuck => False
theorem holds_val {α : Type} {d a : α} : ∀ {t : Tree α}, t.val d = a → t.safe → t.holds (fun y => y = a)
  | .leaf _, h, _ => h
  | .br c t e, h, hs => by
    refine ⟨fun hc => holds_val (d := d) (by simpa [Tree.val, hc] using h) (hs.1 hc), fun hc => holds_val (d := d) (by simpa [Tree.val, hc] using h) (hs.2 hc)⟩
  | .need _ t, h, hs => ⟨hs.1, holds_val (d := d) h hs.2⟩
  | .stuck, _, hs => hs.elim

/-- Contracts, and loops, by their numbers. -/
def mkC (τ : Tys) (G : List (Nat × Ctr)) (Λ : List (Nat × LoopSpec)) (d : Bool := false) : Ctx := ⟨τ, fun f => lk f G, fun id => lk id Λ, d⟩

/-- A function keeps its contract. -/
theorem fun_okX (d : Bool) {P : Program} {τ : Tys} {G : List (Nat × Ctr)} {Λ : List (Nat × LoopSpec)} (TOK : TysOK P τ) (GC : CtrsOK P (fun f => lk f G)) (hmix : P.follows .mixedOrders = true) {f : Nat} {c : Ctr}
    (hf : (P.funcs[f]?).isSome = true) (hname : ((fnOf P f).name == "runtime.NumGoroutine") = false) (hbody : (fnOf P f).body.isSome = true) (hnd : nodupN ((loopsOf (bodyOf (fnOf P f))).map (·.1)) = true)
    (hloops : ∀ p ∈ Λ, LoopOK (mkC τ G Λ d) p.2 (loopB p.1 (bodyOf (fnOf P f))))
    (h : ∀ x : dens c.args, wtD c.args x → (∀ p, c.pre = some p → p x) → (evFn (mkC τ G Λ d) (fnOf P f) (resL c.args x) c.res).holds (fun y => y = c.fn x)) : CtrOK P f c := by
  refine ctr_of_ev (C := mkC τ G Λ d) (fn := fnOf P f) TOK GC hmix (fnOf_eq hf) hname (bodyOf_eq hbody) (lam_of _ fun id body hm L hL => ?_) h
  have hk := lk_mem hnd hm
  have := lk_all (Q := fun id L => LoopOK (mkC τ G Λ d) L (loopB id (bodyOf (fnOf P f)))) hloops hL
  unfold loopB at this
  rw [hk] at this
  exact this
/-- A function keeps its contract. -/
theorem fun_ok {P : Program} {τ : Tys} {G : List (Nat × Ctr)} {Λ : List (Nat × LoopSpec)} (TOK : TysOK P τ) (GC : CtrsOK P (fun f => lk f G)) (hmix : P.follows .mixedOrders = true) {f : Nat} {c : Ctr}
    (hf : (P.funcs[f]?).isSome = true) (hname : ((fnOf P f).name == "runtime.NumGoroutine") = false) (hbody : (fnOf P f).body.isSome = true) (hnd : nodupN ((loopsOf (bodyOf (fnOf P f))).map (·.1)) = true)
    (hloops : ∀ p ∈ Λ, LoopOK (mkC τ G Λ) p.2 (loopB p.1 (bodyOf (fnOf P f))))
    (h : ∀ x : dens c.args, wtD c.args x → (∀ p, c.pre = some p → p x) → (evFn (mkC τ G Λ) (fnOf P f) (resL c.args x) c.res).holds (fun y => y = c.fn x)) : CtrOK P f c :=
  fun_okX false TOK GC hmix hf hname hbody hnd hloops h
end Go.Ev
/- Plain facts on integers of a kind. -/
set_option linter.unusedVariables false
set_option linter.unusedSimpArgs false
namespace Go.Ev

theorem has_u8 (n : Int) : IntKind.u8.has n ↔ 0 ≤ n ∧ n ≤ 255 := by simp [IntKind.has, IntKind.min, IntKind.max, IntKind.signed, IntKind.bits]
theorem has_u32 (n : Int) : IntKind.u32.has n ↔ 0 ≤ n ∧ n ≤ 4294967295 := by simp [IntKind.has, IntKind.min, IntKind.max, IntKind.signed, IntKind.bits]
theorem has_u64 (n : Int) : IntKind.u64.has n ↔ 0 ≤ n ∧ n ≤ 18446744073709551615 := by simp [IntKind.has, IntKind.min, IntKind.max, IntKind.signed, IntKind.bits]
theorem has_i64 (n : Int) : IntKind.i64.has n ↔ -9223372036854775808 ≤ n ∧ n ≤ 9223372036854775807 := by simp [IntKind.has, IntKind.min, IntKind.max, IntKind.signed, IntKind.bits]
theorem has_i32 (n : Int) : IntKind.i32.has n ↔ -2147483648 ≤ n ∧ n ≤ 2147483647 := by simp [IntKind.has, IntKind.min, IntKind.max, IntKind.signed, IntKind.bits]

theorem wrap_u8 (n : Int) : IntKind.u8.wrap n = n % 256 := by simp [IntKind.wrap, IntKind.signed, IntKind.bits]
theorem wrap_u32 (n : Int) : IntKind.u32.wrap n = n % 4294967296 := by simp [IntKind.wrap, IntKind.signed, IntKind.bits]
theorem wrap_u64 (n : Int) : IntKind.u64.wrap n = n % 18446744073709551616 := by simp [IntKind.wrap, IntKind.signed, IntKind.bits]
theorem wrap_i64 (n : Int) : IntKind.i64.wrap n = if n % 18446744073709551616 ≥ 9223372036854775808 then n % 18446744073709551616 - 18446744073709551616 else n % 18446744073709551616 := by simp [IntKind.wrap, IntKind.signed, IntKind.bits]

theorem wrap_id {k : IntKind} {n : Int} (h : k.has n) : k.wrap n = n := by
  cases k <;> simp [IntKind.has, IntKind.min, IntKind.max, IntKind.signed, IntKind.bits] at h <;> simp [IntKind.wrap, IntKind.signed, IntKind.bits] <;> (try split) <;> omega
theorem i64_id {n : Int} (h : -9223372036854775808 ≤ n) (h' : n ≤ 9223372036854775807) : IntKind.i64.wrap n = n := wrap_id ((has_i64 n).2 ⟨h, h'⟩)
theorem u64_id {n : Int} (h : 0 ≤ n) (h' : n ≤ 18446744073709551615) : IntKind.u64.wrap n = n := wrap_id ((has_u64 n).2 ⟨h, h'⟩)
theorem u32_id {n : Int} (h : 0 ≤ n) (h' : n ≤ 4294967295) : IntKind.u32.wrap n = n := wrap_id ((has_u32 n).2 ⟨h, h'⟩)
theorem u8_id {n : Int} (h : 0 ≤ n) (h' : n ≤ 255) : IntKind.u8.wrap n = n := wrap_id ((has_u8 n).2 ⟨h, h'⟩)

theorem ofInt_toNat {w : Nat} {n : Int} (h0 : 0 ≤ n) (h1 : n < 2 ^ w) : (BitVec.ofInt w n).toNat = n.toNat := by
  rw [BitVec.toNat_ofInt]
  have : n % (2 ^ w : Nat) = n := Int.emod_eq_of_lt h0 (by exact_mod_cast h1)
  rw [this]

theorem and_nat {k : IntKind} {a b : Int} (ha : 0 ≤ a) (ha' : a < 2 ^ k.bits) (hb : 0 ≤ b) (hb' : b < 2 ^ k.bits) (h : k.has (a.toNat &&& b.toNat : Nat)) : bitsOp .and k a b = ((a.toNat &&& b.toNat : Nat) : Int) := by
  unfold bitsOp
  simp only [BitVec.toNat_and, ofInt_toNat ha ha', ofInt_toNat hb hb']
  exact wrap_id h
theorem or_nat {k : IntKind} {a b : Int} (ha : 0 ≤ a) (ha' : a < 2 ^ k.bits) (hb : 0 ≤ b) (hb' : b < 2 ^ k.bits) (h : k.has (a.toNat ||| b.toNat : Nat)) : bitsOp .or k a b = ((a.toNat ||| b.toNat : Nat) : Int) := by
  unfold bitsOp
  simp only [BitVec.toNat_or, ofInt_toNat ha ha', ofInt_toNat hb hb']
  exact wrap_id h
end Go.Ev
/- The types of this seat's program, and what holds of it as a whole. -/
namespace Go.Ev.D
open Go.Proofs
def tyL : List (Option TInfo) := [
  none,
  none,
  some ⟨.int .i64, 0, 8, 0⟩,
  some ⟨.int .i64, 0, 8, 0⟩,
  some ⟨.bool, 0, 1, 0⟩,
  some ⟨.int .u8, 0, 1, 0⟩,
  some ⟨.int .u8, 0, 1, 0⟩,
  none,
  none,
  some ⟨.str, 0, 16, 0⟩,
  some ⟨.str, 0, 16, 0⟩,
  some ⟨.str, 0, 16, 0⟩,
  some ⟨.int .u64, 0, 8, 0⟩,
  none,
  none,
  none,
  none,
  none,
  none,
  none,
  none,
  some ⟨.int .i32, 0, 4, 0⟩,
  some ⟨.arr 8 (.int .i64), 0, 64, 0⟩,
  some ⟨.arr 2 (.int .i64), 0, 16, 0⟩,
  none,
  none,
  none,
  none,
  none,
  none,
  none,
  some ⟨.sl (.arr 2 (.int .i64)), 0, 16, 23⟩,
  none,
  some ⟨.int .u32, 0, 4, 0⟩,
  some ⟨.prod (.int .u32) (.int .i64), 2, 16, 0⟩,
  some ⟨.prod (.int .u32) (.int .i64), 2, 16, 0⟩,
  some ⟨.arr 16 (.prod (.int .u32) (.int .i64)), 0, 256, 0⟩,
  some ⟨.arr 16 (.prod (.int .u32) (.int .i64)), 0, 256, 0⟩,
  none,
  none,
  none,
  none,
  none,
  none,
  some ⟨.int .u64, 0, 8, 0⟩,
  none,
  some ⟨.int .u64, 0, 8, 0⟩,
  some ⟨.arr 16 (.int .u32), 0, 64, 0⟩,
  some ⟨.prod (.int .i64) (.arr 16 (.int .u32)), 2, 72, 0⟩,
  some ⟨.prod (.int .i64) (.arr 16 (.int .u32)), 2, 72, 0⟩,
  some ⟨.int .i64, 0, 8, 0⟩,
  none,
  none,
  some ⟨.sl (.int .i64), 0, 8, 3⟩,
  none,
  none,
  none,
  none,
  none,
  none,
  some ⟨.sl (.prod .bool (.prod (.int .i64) (.int .u32))), 0, 24, 62⟩,
  some ⟨.prod .bool (.prod (.int .i64) (.int .u32)), 3, 24, 0⟩,
  some ⟨.prod .bool (.prod (.int .i64) (.int .u32)), 3, 24, 0⟩,
  none,
  some ⟨.prod (.int .i64) (.prod (.int .i64) (.int .i64)), 3, 24, 0⟩,
  some ⟨.prod (.int .i64) (.prod (.int .i64) (.int .i64)), 3, 24, 0⟩,
  none,
  none,
  none,
  none,
  none,
  none,
  some ⟨.prod (.int .i64) (.prod (.int .i64) (.prod (.int .i64) (.int .i64))), 4, 32, 0⟩,
  some ⟨.prod (.int .i64) (.prod (.int .i64) (.prod (.int .i64) (.int .i64))), 4, 32, 0⟩,
  some ⟨.prod (.int .i64) (.prod (.prod (.int .i64) (.prod (.int .i64) (.prod (.int .i64) (.int .i64)))) (.prod (.int .i64) (.arr 16 (.int .u32)))), 3, 112, 0⟩,
  some ⟨.prod (.int .i64) (.prod (.prod (.int .i64) (.prod (.int .i64) (.prod (.int .i64) (.int .i64)))) (.prod (.int .i64) (.arr 16 (.int .u32)))), 3, 112, 0⟩,
  none,
  none,
  none,
  none,
  none,
  none,
  none,
  none,
  none,
  none,
  none,
  none,
  none,
  none,
  none,
  none,
  none,
  some ⟨.sl (.prod (.int .i64) (.prod (.prod (.int .i64) (.prod (.int .i64) (.prod (.int .i64) (.int .i64)))) (.prod (.int .i64) (.arr 16 (.int .u32))))), 0, 112, 75⟩,
  none,
  none,
  none,
  none,
  none,
  none,
  some ⟨.sl (.arr 8 (.int .i64)), 0, 64, 22⟩,
  some ⟨.arr 8 .str, 0, 128, 0⟩,
  none,
  none,
  none,
  none,
  none,
  none,
  none,
  none,
  none,
  some ⟨.sl (.int .u8), 0, 1, 5⟩,
  none,
  none,
  none,
  none,
  none,
  none,
  none,
  some ⟨.sl .str, 0, 16, 9⟩,
  none,
  none,
  none,
  none,
  some ⟨.arr 4 (.int .i64), 0, 32, 0⟩,
  none,
  none,
  none,
  none,
  none,
  none,
  none,
  none,
  none,
  none,
  none,
  none,
  none,
  none,
  some ⟨.arr 16 (.int .i64), 0, 128, 0⟩,
  some ⟨.arr 16 (.arr 16 (.int .i64)), 0, 2048, 0⟩,
  none,
  some ⟨.arr 5 .str, 0, 80, 0⟩,
  none,
  none,
  none,
  none,
  none,
  none,
  none,
  none,
  none,
  some ⟨.arr 24 (.int .u8), 0, 24, 0⟩,
  none,
  none,
  none,
  none,
  none,
  none,
  some ⟨.int .i64, 0, 8, 0⟩,
  none,
  none,
  none,
  none,
  none,
  some ⟨.arr 20 (.int .u64), 0, 160, 0⟩,
  some ⟨.arr 65 (.int .u8), 0, 65, 0⟩,
  some ⟨.arr 32 (.int .u8), 0, 32, 0⟩,
  some ⟨.arr 64 (.int .u8), 0, 64, 0⟩,
  none,
  none,
  none,
  none,
  none,
  none,
  none,
  none,
  none,
  none,
  some ⟨.prod .str .unit, 1, 16, 0⟩,
  some ⟨.prod .str .unit, 1, 16, 0⟩,
  none,
  none,
  some ⟨.arr 256 (.int .u8), 0, 256, 0⟩,
  some ⟨.prod (.int .u8) (.int .u8), 2, 2, 0⟩,
  some ⟨.prod (.int .u8) (.int .u8), 2, 2, 0⟩,
  some ⟨.arr 16 (.prod (.int .u8) (.int .u8)), 0, 32, 0⟩,
  none,
  none,
  none,
  none,
  none,
  some ⟨.int .u8, 0, 1, 0⟩,
  some ⟨.int .u8, 0, 1, 0⟩,
  none,
  some ⟨.int .i32, 0, 4, 0⟩,
  some ⟨.int .i32, 0, 4, 0⟩,
  none,
  none]

def tys : Tys := fun t => tyL.getD t none
theorem tysOK : TysOK Tryd.prog tys := tysOK_of_chk (by kernel_rfl)
theorem mixed : Tryd.prog.follows .mixedOrders = true := by kernel_rfl
end Go.Ev.D
/- Epochs and numbers in bytes, plainly. -/
set_option linter.unusedVariables false
namespace Go.Ev

abbrev gE : GTy := .prod (.int .u32) (.int .u32)
abbrev gPair : GTy := .prod gE gE

def newerF (a b : Int × Int) : Bool := bif a.1 != b.1 then decide (a.1 > b.1) else decide (a.2 > b.2)
def nextF (e : Int × Int) : (Int × Int) × Int := bif e.2 == 4294967295 then ((0, 0), 11) else ((e.1, e.2 + 1), 0)
def rebootF (e : Int × Int) : (Int × Int) × Int := bif e.1 == 4294967295 then ((0, 0), 11) else ((e.1 + 1, 0), 0)
def noneF (e : Int × Int) : Bool := e.1 == 0 && e.2 == 0
def swapF (p : (Int × Int) × (Int × Int)) : (Int × Int) × (Int × Int) := (p.2, p.1)
def sameF (a b : (Int × Int) × (Int × Int)) : Bool := geq gPair a (swapF b) && !(noneF a.1) && !(noneF a.2)

/-- The lowest k bytes of a number, the highest one first. -/
def numB : Nat → Nat → List UInt8
  | 0, _ => []
  | k + 1, n => numB k (n / 256) ++ [UInt8.ofNat (n % 256)]
/-- The number that bytes tell. -/
def bigN (l : List UInt8) : Nat := l.foldl (fun a b => a * 256 + b.toNat) 0

theorem numB_len : ∀ k n, (numB k n).length = k
  | 0, _ => rfl
  | k + 1, n => by simp [numB, numB_len k]
theorem bigN_snoc (l : List UInt8) (b : UInt8) : bigN (l ++ [b]) = bigN l * 256 + b.toNat := by simp [bigN]
theorem bigN_num : ∀ k n, bigN (numB k n) = n % 256 ^ k
  | 0, n => by simp [numB, bigN, Nat.mod_one]
  | k + 1, n => by
    rw [numB, bigN_snoc, bigN_num k]
    have h : (UInt8.ofNat (n % 256)).toNat = n % 256 := by simp
    rw [h, Nat.pow_succ, Nat.mul_comm (256 ^ k) 256, Nat.mod_mul]
    omega
theorem big_lt : ∀ (l : List UInt8) (a : Nat), l.foldl (fun a b => a * 256 + b.toNat) a < (a + 1) * 256 ^ l.length
  | [], a => by simp
  | b :: l, a => by
    have h := big_lt l (a * 256 + b.toNat)
    have hb := b.toNat_lt
    simp only [List.foldl_cons, List.length_cons, Nat.pow_succ]
    refine Nat.lt_of_lt_of_le h ?_
    rw [Nat.mul_comm (256 ^ l.length) 256, ← Nat.mul_assoc]
    exact Nat.mul_le_mul_right _ (by omega)
theorem bigN_lt (l : List UInt8) : bigN l < 256 ^ l.length := by
  have := big_lt l 0
  simpa [bigN] using this
/-- The number of so many bytes, and what follows; else which error. -/
def numF (n k : Int) : List UInt8 := numB (min (max k 0) 8).toNat n.toNat
def takeF (s : List UInt8) (k : Int) : Int × List UInt8 × Int :=
  bif bif decide (k < 0) then true else decide (k > 8) then (0, [], 1) else bif decide ((s.length : Int) < k) then (0, [], 2) else ((bigN (s.take k.toNat) : Int), s.drop k.toNat, 0)

theorem u8_toNat_lt (b : UInt8) : (b.toNat : Int) < 256 := by have := b.toNat_lt; omega

theorem take_step {s : List UInt8} {i : Int} (h0 : 0 ≤ i) (hi : i < s.length) (h7 : i < 8) :
    bitsOp .or .u64 (IntKind.u64.wrap ((bigN (s.take i.toNat) : Int) * 256)) (IntKind.u64.wrap ((s.getD i.toNat 0).toNat : Int)) = (bigN (s.take (i + 1).toNat) : Int) := by
  have hlt := bigN_lt (s.take i.toNat)
  have hlen : (s.take i.toNat).length = i.toNat := by rw [List.length_take]; omega
  rw [hlen] at hlt
  have hp : (256 : Nat) ^ i.toNat ≤ 256 ^ 7 := Nat.pow_le_pow_right (by omega) (by omega)
  have hb := u8_toNat_lt (s.getD i.toNat 0)
  have hn : s.take (i + 1).toNat = s.take i.toNat ++ [s.getD i.toNat 0] := by
    rw [show (i + 1).toNat = i.toNat + 1 by omega, List.take_add_one]
    simp [List.getD, show i.toNat < s.length by omega]
  generalize s.getD i.toNat 0 = b at *
  rw [hn, bigN_snoc]
  generalize bigN (s.take i.toNat) = n at *
  have h7' : (256 : Nat) ^ 7 = 72057594037927936 := by decide
  rw [u64_id (by omega) (by omega), u64_id (by omega) (by omega)]
  have hor : (n * 256) ||| b.toNat = n * 256 + b.toNat := by
    have := Nat.two_pow_add_eq_or_of_lt (i := 8) (b := b.toNat) b.toNat_lt n
    rw [show (2 : Nat) ^ 8 = 256 by decide] at this
    rw [Nat.mul_comm n 256, this]
  rw [or_nat (by omega) (by show (n : Int) * 256 < 18446744073709551616; omega) (by omega) (by show (b.toNat : Int) < 18446744073709551616; omega)]
  · rw [show ((n : Int) * 256).toNat = n * 256 by omega, show ((b.toNat : Int)).toNat = b.toNat by omega, hor]
  · rw [show ((n : Int) * 256).toNat = n * 256 by omega, show ((b.toNat : Int)).toNat = b.toNat by omega, hor, has_u64]
    omega

/-- The row that a number's bytes fill. -/
def numI (k n : Nat) : List Int := (numB k n).map fun b => (b.toNat : Int)
theorem numI_len (k n : Nat) : (numI k n).length = k := by simp [numI, numB_len]
theorem numI_succ (k n : Nat) : numI (k + 1) n = numI k (n / 256) ++ [((n % 256 : Nat) : Int)] := by simp [numI, numB]
theorem bytesToStr_map (l : List UInt8) : bytesToStr (l.map fun b => (b.toNat : Int)) = l := by
  unfold bytesToStr
  rw [List.map_map]
  have : ((fun n : Int => UInt8.ofNat n.toNat) ∘ fun b : UInt8 => (b.toNat : Int)) = id := by
    funext b
    simp
  rw [this, List.map_id]
theorem bytesToStr_numI (k n : Nat) : bytesToStr (numI k n) = numB k n := bytesToStr_map _
theorem low_byte {n : Int} (h0 : 0 ≤ n) (h1 : n < 18446744073709551616) : IntKind.u8.wrap (bitsOp .and .u64 n 255) = ((n.toNat % 256 : Nat) : Int) := by
  have hand : n.toNat &&& 255 = n.toNat % 256 := Nat.and_two_pow_sub_one_eq_mod n.toNat 8
  have e : ((255 : Int)).toNat = 255 := rfl
  rw [and_nat h0 (by show n < 18446744073709551616; exact h1) (by omega) (by show (255 : Int) < 18446744073709551616; omega)]
  · rw [e, hand, u8_id (by omega) (by omega)]
  · rw [e, hand, has_u64]; omega
theorem num_fill {n i : Int} {out : List Int} (h0 : 0 ≤ n) (h1 : n < 18446744073709551616) (hi : 0 ≤ i) (hl : i < out.length) :
    numI i.toNat (Int.fdiv n 256).toNat ++ (out.set i.toNat (IntKind.u8.wrap (bitsOp .and .u64 n 255))).drop i.toNat = numI (i + 1).toNat n.toNat ++ out.drop (i + 1).toNat := by
  rw [low_byte h0 h1, show (i + 1).toNat = i.toNat + 1 by omega, numI_succ]
  have hd : (Int.fdiv n 256).toNat = n.toNat / 256 := by
    rw [Int.fdiv_eq_ediv_of_nonneg _ (by omega)]; omega
  rw [hd, List.append_assoc, List.drop_set, if_neg (by omega), Nat.sub_self]
  congr 1
  have hlt : i.toNat < out.length := by omega
  rw [List.drop_eq_getElem_cons hlt]
  rfl

def num4 (n : Int) : List UInt8 := numB 4 n.toNat
def pairB (p : (Int × Int) × (Int × Int)) : List UInt8 := num4 p.1.1 ++ num4 p.1.2 ++ (num4 p.2.1 ++ num4 p.2.2)
def big4 (s : List UInt8) : Int := (bigN (s.take 4) : Nat)
def readF (s : List UInt8) : ((Int × Int) × (Int × Int)) × List UInt8 × Int :=
  bif decide ((s.length : Int) < 16) then (((0, 0), (0, 0)), [], 2) else (((big4 s, big4 (s.drop 4)), (big4 (s.drop 8), big4 (s.drop 12))), s.drop 16, 0)

theorem numF4 (n : Int) : numF n 4 = num4 n := rfl
theorem num4_len (n : Int) : (num4 n).length = 4 := numB_len 4 _
theorem takeF4 {s : List UInt8} (h : 4 ≤ s.length) : takeF s 4 = (big4 s, s.drop 4, 0) := by
  have h1 : decide ((s.length : Int) < 4) = false := by simp; omega
  unfold takeF
  rw [h1]
  rfl
theorem big4_lt (s : List UInt8) : 0 ≤ big4 s ∧ big4 s ≤ 4294967295 := by
  unfold big4
  have := bigN_lt (s.take 4)
  have h : (256 : Nat) ^ (s.take 4).length ≤ 256 ^ 4 := Nat.pow_le_pow_right (by omega) (by simp; omega)
  have h' : (256 : Nat) ^ 4 = 4294967296 := by decide
  omega
theorem big4_u32 (s : List UInt8) : IntKind.u32.wrap (big4 s) = big4 s := u32_id (big4_lt s).1 (big4_lt s).2
end Go.Ev
/- The laws of epochs, plainly. -/
set_option linter.unusedVariables false
namespace Go.Ev

theorem newerF_eq (a b : Int × Int) : newerF a b = decide (a.1 > b.1 ∨ a.1 = b.1 ∧ a.2 > b.2) := by
  unfold newerF
  by_cases h : a.1 = b.1
  · simp [h]
  · have : (a.1 != b.1) = true := by simpa using h
    rw [this]
    simp [h]
theorem geqE (a b : Int × Int) : geq gE a b = decide (a.1 = b.1 ∧ a.2 = b.2) := by
  simp [geq, Bool.decide_and]
  rfl
theorem geqB (x y : Bool) : geq .bool x y = (x == y) := rfl
theorem order_no (a b c : Int × Int) :
    (bif bif bif newerF a b then newerF b a else false then true else !geq GTy.bool (geq gE a b) (bif !newerF a b then !newerF b a else false) then true else bif bif newerF a b then newerF b c else false then !newerF a c else false) = false := by
  cases h1 : newerF a b <;> cases h2 : newerF b a <;> cases h3 : newerF b c <;> cases h4 : newerF a c <;> cases h5 : geq gE a b <;>
    first
    | rfl
    | (exfalso
       rw [newerF_eq] at h1 h2 h3 h4
       rw [geqE] at h5
       simp only [decide_eq_true_eq, decide_eq_false_iff_not] at h1 h2 h3 h4 h5
       omega)
theorem order_yes (a : Int × Int) :
    (bif bif bif bif (nextF a).2 != 0 then true else newerF (nextF a).1 a then bif (rebootF a).2 != 0 then true else newerF (rebootF a).1 a else false then bif bif (nextF a).2 != 0 then true else (rebootF a).2 != 0 then true else newerF (rebootF a).1 (nextF a).1 else false then true else false) = true := by
  simp only [newerF_eq, nextF, rebootF]
  cases h1 : (a.2 == 4294967295) <;> cases h2 : (a.1 == 4294967295) <;> simp <;> omega

theorem big_num4 {n : Int} (h : 0 ≤ n ∧ n ≤ 4294967295) (l : List UInt8) : big4 (num4 n ++ l) = n := by
  unfold big4 num4
  rw [List.take_left' (numB_len 4 _), bigN_num]
  have h' : (256 : Nat) ^ 4 = 4294967296 := by decide
  omega
theorem read_pair {p : (Int × Int) × (Int × Int)} (h : wt gPair p) (s : List UInt8) : readF (pairB p ++ s) = (p, s, 0) := by
  obtain ⟨⟨a, b⟩, ⟨c, d⟩⟩ := p
  obtain ⟨⟨ha, hb⟩, ⟨hc, hd⟩⟩ := h
  simp only [wt, has_u32] at ha hb hc hd
  unfold readF pairB
  have hl : decide (((num4 a ++ num4 b ++ (num4 c ++ num4 d) ++ s).length : Int) < 16) = false := by
    simp only [List.length_append, num4_len]
    simp
    omega
  have h4 : ∀ (n : Int) (l : List UInt8), (num4 n ++ l).drop 4 = l := fun n l => List.drop_left' (num4_len n)
  have d4 : (num4 a ++ (num4 b ++ (num4 c ++ (num4 d ++ s)))).drop 4 = num4 b ++ (num4 c ++ (num4 d ++ s)) := h4 _ _
  have d8 : (num4 a ++ (num4 b ++ (num4 c ++ (num4 d ++ s)))).drop 8 = num4 c ++ (num4 d ++ s) := by
    rw [show (8 : Nat) = 4 + 4 from rfl, ← List.drop_drop, h4, h4]
  have d12 : (num4 a ++ (num4 b ++ (num4 c ++ (num4 d ++ s)))).drop 12 = num4 d ++ s := by
    rw [show (12 : Nat) = 8 + 4 from rfl, ← List.drop_drop, d8, h4]
  have d16 : (num4 a ++ (num4 b ++ (num4 c ++ (num4 d ++ s)))).drop 16 = s := by
    rw [show (16 : Nat) = 12 + 4 from rfl, ← List.drop_drop, d12, h4]
  rw [hl]
  simp only [List.append_assoc, cond_false]
  rw [d4, d8, d12, d16, big_num4 ha, big_num4 hb, big_num4 hc, big_num4 hd]
theorem geqPair (p q : (Int × Int) × (Int × Int)) : geq gPair p q = decide (p = q) := by
  obtain ⟨⟨a, b⟩, ⟨c, d⟩⟩ := p
  obtain ⟨⟨a', b'⟩, ⟨c', d'⟩⟩ := q
  simp only [geq]
  rw [Bool.eq_iff_iff]
  simp [and_assoc]
theorem pairB_len (p : (Int × Int) × (Int × Int)) : (pairB p).length = 16 := by simp [pairB, num4_len]
end Go.Ev
/- Parcels, and by whom they go, plainly. -/
set_option linter.unusedVariables false
namespace Go.Ev

abbrev gFib : GTy := .prod (.int .i64) (.prod (.arr 16 (.int .i64)) (.arr 16 gPair))
abbrev gParcel : GTy := .prod (.int .i64) (.prod gPair (.prod (.int .i64) (.prod (.int .i64) (.prod (.int .i64) .str))))
abbrev DPair := (Int × Int) × (Int × Int)
abbrev DFib := Int × List Int × List DPair
abbrev DParcel := Int × DPair × Int × Int × Int × List UInt8

def rightF (n : Int) : Bool := bif decide (n ≥ 0) then decide (n < 16) else false
def parcel0 : DParcel := (0, ((0, 0), (0, 0)), 0, 0, 0, [])
def prightF (p : DParcel) : Bool :=
  bif bif bif bif bif rightF p.1 then rightF p.2.2.1 else false then rightF p.2.2.2.1 else false then decide (p.2.2.2.2.1 ≥ 1) else false then decide (p.2.2.2.2.1 ≤ 64) else false then decide ((p.2.2.2.2.2.length : Int) ≤ 64) else false
def hoppedF (p : DParcel) (n : Int) (e : DPair) : DParcel := bif decide (p.2.2.2.2.1 ≤ 1) then parcel0 else (n, e, p.2.2.1, p.2.2.2.1, IntKind.i64.wrap (p.2.2.2.2.1 - 1), p.2.2.2.2.2)
def hopF (p : DParcel) (n : Int) (e : DPair) : DParcel × Bool := (hoppedF p n e, !(geq gParcel (hoppedF p n e) parcel0))
def fib0 (self : Int) : DFib := (self, List.replicate 16 (-1), List.replicate 16 ((0, 0), (0, 0)))
def oldF (f : DFib) (p : DParcel) : Bool := bif bif !rightF p.1 then true else p.1 == f.1 then true else !sameF (f.2.2.getD p.1.toNat ((0, 0), (0, 0))) p.2.1
theorem rightF_iff {n : Int} : rightF n = true ↔ 0 ≤ n ∧ n < 16 := by
  unfold rightF
  cases h : decide (n ≥ 0) <;> simp at h ⊢ <;> omega
def fateF (f : DFib) (p : DParcel) (mine : Bool) : Int :=
  bif !prightF p then 3 else bif bif !mine then oldF f p else false then 4 else bif p.2.2.2.1 == f.1 then 0 else bif bif !mine then p.2.2.1 == f.1 else false then 5 else
    bif !rightF (f.2.1.getD p.2.2.2.1.toNat 0) then 3 else bif bif !mine then decide (p.2.2.2.2.1 ≤ 1) else false then 2 else 1
def outF (f : DFib) (p : DParcel) : Int × DParcel × Bool :=
  bif bif !rightF p.2.2.2.1 then true else !rightF (f.2.1.getD p.2.2.2.1.toNat 0) then (-1, parcel0, false) else
    (f.2.1.getD p.2.2.2.1.toNat 0, (f.1, f.2.2.getD (f.2.1.getD p.2.2.2.1.toNat 0).toNat ((0, 0), (0, 0)), p.2.2), true)
theorem prightF_dst {p : DParcel} (h : prightF p = true) : 0 ≤ p.2.2.2.1 ∧ p.2.2.2.1 < 16 := by
  unfold prightF at h
  cases h1 : rightF p.2.2.2.1 with
  | true => exact rightF_iff.1 h1
  | false => rw [h1] at h; cases hx : rightF p.1 <;> cases hy : rightF p.2.2.1 <;> simp [hx, hy] at h
def carryF (f : DFib) (p : DParcel) : Int × DParcel × Int :=
  bif fateF f p false != 1 then (-1, parcel0, fateF f p false) else bif geq gParcel (hopF p f.1 p.2.1).1 parcel0 then (-1, (hopF p f.1 p.2.1).1, fateF f p false) else
    ((outF f (hopF p f.1 p.2.1).1).1, (outF f (hopF p f.1 p.2.1).1).2.1, fateF f p false)
def beginF (f : DFib) (p : DParcel) : Int × DParcel × Int :=
  bif fateF f (f.1, p.2.1, f.1, p.2.2.2) true != 1 then (-1, parcel0, fateF f (f.1, p.2.1, f.1, p.2.2.2) true) else
    ((outF f (f.1, p.2.1, f.1, p.2.2.2)).1, (outF f (f.1, p.2.1, f.1, p.2.2.2)).2.1, fateF f (f.1, p.2.1, f.1, p.2.2.2) true)
def someFib : DFib := (1, (List.replicate 16 (-1)).set 3 2, ((List.replicate 16 ((0, 0), (0, 0))).set 2 ((1, 0), (2, 0))).set 4 ((1, 0), (9, 0)))
end Go.Ev
/- Nodes, costs and configurations, plainly. -/
set_option linter.unusedVariables false
namespace Go.Ev

abbrev gRules : GTy := .prod (.int .i64) (.prod (.int .i64) (.prod (.int .i64) (.int .i64)))
abbrev gCosts : GTy := .prod (.int .i64) (.arr 16 (.int .u32))
abbrev gConf : GTy := .prod (.int .i64) (.prod gRules gCosts)
abbrev DRules := Int × Int × Int × Int
abbrev DCosts := Int × List Int
abbrev DConf := Int × DRules × DCosts

/-- Bit n of a set. -/
def bitF (set n : Int) : Bool := bitsOp .and .i64 (Int.fdiv set (2 ^ min n.toNat 64)) 1 == 1
def hasF (set n : Int) : Bool := bif rightF n then bitF set n else false
def rcostF (n : Int) : Bool := bif decide (n ≥ 1) then decide (n ≤ 65536) else false
def withF (set n : Int) : Int := bif !rightF n then set else bitsOp .or .i64 set (IntKind.i64.wrap (1 * 2 ^ min n.toNat 64))
def withinF (n a b : Int) : Bool := bif decide (n ≥ a) then decide (n ≤ b) else false
def rulesF (r : DRules) : Bool := bif bif bif bif withinF r.1 1 100 then decide (r.2.1 > r.1) else false then decide (r.2.1 ≤ 1000) else false then withinF r.2.2.1 1 100 else false then withinF r.2.2.2 1 10 else false
def csetF (c : DCosts) (n w : Int) : DCosts × Int := bif bif !rightF n then true else !rcostF w then (c, 1) else ((withF c.1 n, c.2.set n.toNat w), 0)
/-- The set's nodes among the last k. -/
def elemsF (set : Int) : Nat → List Int
  | 0 => []
  | k + 1 => (bif hasF set (16 - (k + 1 : Nat)) then [(16 : Int) - (k + 1 : Nat)] else []) ++ elemsF set k
theorem elems_len (set : Int) : ∀ k, (elemsF set k).length ≤ k
  | 0 => Nat.le_refl _
  | k + 1 => by
    have := elems_len set k
    unfold elemsF
    cases hasF set (16 - (k + 1 : Nat)) <;> simp <;> omega
theorem list_step {s i : Int} {out : List Int} (h : 0 ≤ i ∧ i ≤ 16 ∧ (out.length : Int) ≤ i) :
    ((decide (i < 16) = true → (hasF s i = true → (out.length + 1) * 8 ≤ 140737488355328) ∧ ∃ y : (Int × Int × Unit) × List Int × Unit, some ((s, IntKind.i64.wrap (i + 1), ()), bif hasF s i then out ++ [i] else out, ()) = some y ∧
        (0 ≤ y.1.2.1 ∧ y.1.2.1 ≤ 16 ∧ (y.2.1.length : Int) ≤ y.1.2.1) ∧ (16 - y.1.2.1).toNat < (16 - i).toNat ∧ (Ex.exit 0, ((y.1.1, (16 : Int), ()), y.2.1 ++ elemsF y.1.1 (16 - y.1.2.1).toNat, ())) = (Ex.exit 0, ((s, (16 : Int), ()), out ++ elemsF s (16 - i).toNat, ()))) ∧
      (decide (i < 16) = false → ∃ y : (Int × Int × Unit) × List Int × Unit, some ((s, i, ()), out, ()) = some y ∧ (Ex.exit 0, ((s, (16 : Int), ()), out ++ elemsF s (16 - i).toNat, ())) = (Ex.exit 0, y))) := by
  obtain ⟨h1, h2, h3⟩ := h
  refine ⟨fun h => ?_, fun h => ?_⟩
  · have h' : i < 16 := by simpa using h
    have e : IntKind.i64.wrap (i + 1) = i + 1 := i64_id (by omega) (by omega)
    rw [e]
    refine ⟨fun _ => by omega, _, rfl, ⟨by simp only []; omega, by simp only []; omega, ?_⟩, by simp only []; omega, ?_⟩
    · cases hasF s i <;> simp <;> omega
    · simp only []
      rw [show (16 - i).toNat = (16 - (i + 1)).toNat + 1 by omega, elemsF, show (16 : Int) - ((16 - (i + 1)).toNat + 1 : Nat) = i by omega]
      cases hasF s i <;> simp
  · have h' : i = 16 := by
      have : ¬ i < 16 := by simpa using h
      omega
    subst h'
    exact ⟨_, rfl, by simp [elemsF]⟩
end Go.Ev
/- Sets of nodes as texts, in plain Lean. -/
set_option linter.unusedVariables false
set_option linter.unusedSimpArgs false
namespace Go.Ev
def letF (n : Int) : UInt8 := UInt8.ofNat (97 + n).toNat
def textN (s : Int) : List UInt8 := bif bitsOp BinOp.and IntKind.i64 s (65535 : Int) == (0 : Int) then [46] else (elemsF s 16).map letF
theorem elem_in {s j : Int} : ∀ {k : Nat}, k ≤ 16 → j ∈ elemsF s k → 0 ≤ j ∧ j < 16 ∧ hasF s j = true
  | 0, _, h => by cases h
  | k + 1, hk, h => by
    simp only [elemsF, List.mem_append] at h
    rcases h with h | h
    · cases hb : hasF s (16 - (k + 1 : Nat)) with
      | false => rw [hb] at h; simp at h
      | true =>
        rw [hb] at h
        have : j = 16 - ((k + 1 : Nat) : Int) := by simpa using h
        rw [this]
        exact ⟨by omega, by omega, hb⟩
    · exact elem_in (by omega) h
theorem in_elem {s j : Int} (hj : j < 16) (hh : hasF s j = true) : ∀ {k : Nat}, 16 - (k : Int) ≤ j → j ∈ elemsF s k
  | 0, h => by omega
  | k + 1, h => by
    simp only [elemsF, List.mem_append]
    by_cases e : j = 16 - ((k + 1 : Nat) : Int)
    · left
      rw [← e, hh]
      simp
    · right
      exact in_elem hj hh (by omega)
theorem and_low {s : Int} (m : Nat) (hm : m < 63) : bitsOp BinOp.and IntKind.i64 s ((2 ^ m - 1 : Nat) : Int) = s % (2 ^ m : Nat) := by
  have hp : 2 ^ m ≤ 2 ^ 62 := Nat.pow_le_pow_right (by omega) (by omega)
  have hp0 : 0 < 2 ^ m := Nat.pow_pos (by omega)
  have h62 : (2 : Nat) ^ 62 = 4611686018427387904 := by decide
  show IntKind.i64.wrap ((BitVec.ofInt 64 s &&& BitVec.ofInt 64 ((2 ^ m - 1 : Nat) : Int)).toNat : Int) = _
  rw [BitVec.toNat_and, BitVec.toNat_ofInt, BitVec.toNat_ofInt]
  have e1 : (((2 ^ m - 1 : Nat) : Int) % ((2 ^ 64 : Nat) : Int)).toNat = 2 ^ m - 1 := by
    rw [Int.emod_eq_of_lt (by omega) (by omega)]
    omega
  rw [e1, Nat.and_two_pow_sub_one_eq_mod]
  have h2 : (s % ((2 ^ 64 : Nat) : Int)).toNat % 2 ^ m = (s % (2 ^ m : Nat)).toNat := by
    have hd : ((2 ^ m : Nat) : Int) ∣ ((2 ^ 64 : Nat) : Int) := Int.ofNat_dvd.2 (Nat.pow_dvd_pow 2 (by omega))
    have hnn : 0 ≤ s % ((2 ^ 64 : Nat) : Int) := Int.emod_nonneg _ (by decide)
    have := Int.emod_emod_of_dvd s hd
    have h3 : (((s % ((2 ^ 64 : Nat) : Int)).toNat % 2 ^ m : Nat) : Int) = s % (2 ^ m : Nat) := by
      rw [Int.natCast_emod, Int.toNat_of_nonneg hnn]
      exact this
    have h4 : 0 ≤ s % ((2 ^ m : Nat) : Int) := Int.emod_nonneg _ (by omega)
    omega
  rw [h2]
  have h4 : 0 ≤ s % ((2 ^ m : Nat) : Int) := Int.emod_nonneg _ (by omega)
  have h5 := Int.emod_lt_of_pos s (show (0 : Int) < ((2 ^ m : Nat) : Int) by omega)
  rw [i64_id (by omega) (by omega)]
  omega
theorem bit_at {s : Int} {n : Nat} (hn : n < 16) : bitF s n = ((s / (2 ^ n : Nat)) % 2 == 1) := by
  unfold bitF
  have e : min (n : Int).toNat 64 = n := by omega
  rw [e]
  have h := and_low (s := Int.fdiv s (2 ^ n)) 1 (by omega)
  have h' : bitsOp BinOp.and IntKind.i64 (Int.fdiv s (2 ^ n)) 1 = Int.fdiv s (2 ^ n) % 2 := h
  rw [h', Int.fdiv_eq_ediv_of_nonneg _ (Int.le_of_lt (Int.pow_pos (by omega)))]
  simp
theorem bits_dvd {s : Int} (h : ∀ n : Nat, n < 16 → (s / (2 ^ n : Nat)) % 2 = 0) : ∀ n : Nat, n ≤ 16 → ((2 ^ n : Nat) : Int) ∣ s
  | 0, _ => by simp
  | n + 1, hn => by
    obtain ⟨q, hq⟩ := bits_dvd h n (by omega)
    have h1 := h n (by omega)
    have hp : ((2 ^ n : Nat) : Int) ≠ 0 := by
      have : 0 < 2 ^ n := Nat.pow_pos (by omega)
      omega
    rw [hq, Int.mul_ediv_cancel_left q hp] at h1
    obtain ⟨r, hr⟩ := Int.dvd_of_emod_eq_zero h1
    refine ⟨r, ?_⟩
    rw [hq, hr, Nat.pow_succ, Int.natCast_mul, Int.mul_assoc]
    rfl
theorem no_bits {s : Int} (h : ∀ n : Nat, n < 16 → (s / (2 ^ n : Nat)) % 2 = 0) : s % 65536 = 0 := Int.emod_eq_zero_of_dvd (bits_dvd h 16 (by omega))
theorem right_nat {n : Nat} (hn : n < 16) : rightF (n : Int) = true := rightF_iff.2 ⟨by omega, by omega⟩
theorem mask_empty (s : Int) : (bitsOp BinOp.and IntKind.i64 s (65535 : Int) == (0 : Int)) = (elemsF s 16).isEmpty := by
  have hm : bitsOp BinOp.and IntKind.i64 s (65535 : Int) = s % 65536 := and_low (s := s) 16 (by omega)
  rw [hm, Bool.eq_iff_iff]
  simp only [beq_iff_eq, List.isEmpty_iff]
  constructor
  · intro h
    cases he : elemsF s 16 with
    | nil => rfl
    | cons j l =>
      exfalso
      obtain ⟨h1, h2, h3⟩ := elem_in (Nat.le_refl 16) (show j ∈ elemsF s 16 by rw [he]; simp)
      obtain ⟨n, rfl⟩ := Int.eq_ofNat_of_zero_le h1
      have hn : n < 16 := by omega
      unfold hasF at h3
      rw [right_nat hn] at h3
      simp only [cond_true] at h3
      rw [bit_at hn] at h3
      simp only [beq_iff_eq] at h3
      have hk : n = 0 ∨ n = 1 ∨ n = 2 ∨ n = 3 ∨ n = 4 ∨ n = 5 ∨ n = 6 ∨ n = 7 ∨ n = 8 ∨ n = 9 ∨ n = 10 ∨ n = 11 ∨ n = 12 ∨ n = 13 ∨ n = 14 ∨ n = 15 := by omega
      rcases hk with rfl | rfl | rfl | rfl | rfl | rfl | rfl | rfl | rfl | rfl | rfl | rfl | rfl | rfl | rfl | rfl <;> (simp at h3; omega)
  · intro h
    refine no_bits fun n hn => ?_
    cases hb : hasF s n with
    | true =>
      have := in_elem (k := 16) (by omega) hb (by omega)
      rw [h] at this
      cases this
    | false =>
      unfold hasF at hb
      rw [right_nat hn] at hb
      simp only [cond_true] at hb
      rw [bit_at hn] at hb
      have : ¬ s / (2 ^ n : Nat) % 2 = 1 := by simpa using hb
      have h2 := Int.emod_nonneg (s / (2 ^ n : Nat)) (show (2 : Int) ≠ 0 by decide)
      have h3 := Int.emod_lt_of_pos (s / (2 ^ n : Nat)) (show (0 : Int) < 2 by decide)
      omega
theorem textN_len (s : Int) : (textN s).length ≤ 16 := by
  unfold textN
  have := elems_len s 16
  cases bitsOp BinOp.and IntKind.i64 s (65535 : Int) == (0 : Int) <;> simp <;> omega
theorem let_byte {n : Int} (h0 : 0 ≤ n) (h1 : n < 16) : bytesToStr [IntKind.wrap IntKind.u8 (IntKind.wrap IntKind.i64 ((97 : Int) + n))] = [letF n] := by
  rw [show IntKind.wrap IntKind.i64 ((97 : Int) + n) = 97 + n from i64_id (by omega) (by omega), show IntKind.wrap IntKind.u8 ((97 : Int) + n) = 97 + n from u8_id (by omega) (by omega)]
  rfl
theorem drop_int {l : List Int} {i : Int} (h0 : 0 ≤ i) (h1 : i < l.length) : l.drop i.toNat = l.getD i.toNat 0 :: l.drop (i + 1).toNat := by
  have hlt : i.toNat < l.length := by omega
  rw [List.drop_eq_getElem_cons hlt, show (i + 1).toNat = i.toNat + 1 by omega]
  simp [List.getD, hlt]
theorem getD_mem {l : List Int} {i : Int} (h0 : 0 ≤ i) (h1 : i < l.length) : l.getD i.toNat 0 ∈ l := by
  have hlt : i.toNat < l.length := by omega
  simp [List.getD, hlt]
end Go.Ev
