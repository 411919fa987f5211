/- Forks. -/
import Derived.Test.YtohodbfoeejbjaaEvRun5
set_option linter.unusedVariables false
set_option linter.unusedSimpArgs false
namespace Go.Ev

theorem lk_marks (f : Nat → Bool → Bool) (b : Nat) : ∀ l : Bxs, lk b (l.map fun (x : Nat × Bool × Box) => (x.1, f x.1 x.2.1, x.2.2)) = (lk b l).map fun y => (f b y.1, y.2)
  | [] => rfl
  | (j, d, B) :: l => by
    have ih := lk_marks f b l
    simp only [List.map_cons, lk]
    cases hb : Nat.beq j b with
    | true => rw [Nat.eq_of_beq_eq_true hb]; rfl
    | false => exact ih

theorem clean_boxes (s : St) (b : Nat) : lk b s.clean.boxes = (lk b s.boxes).map fun y => (false, y.2) := lk_marks (fun _ _ => false) b s.boxes
theorem remark_boxes (s old : St) (b : Nat) : lk b (s.remark old).boxes = (lk b s.boxes).map fun y => (y.1 || (match lk b old.boxes with | some (d', _) => d' | none => true), y.2) :=
  lk_marks (fun b d => d || (match lk b old.boxes with | some (d', _) => d' | none => true)) b s.boxes

/-- A box told with less. -/
def Box.weak (B Z : Box) : Prop :=
  match B, Z with
  | .var g x, .var h y => ∃ e : g = h, e ▸ x = y
  | .row t g a f, .row u h b f' => t = u ∧ (∃ e : g = h, e ▸ a = b) ∧ (f = true → f' = true)
  | _, _ => False

theorem Box.weak_refl (B : Box) : Box.weak B B := by
  cases B with
  | var g x => exact ⟨rfl, rfl⟩
  | row t g a f => exact ⟨rfl, ⟨rfl, rfl⟩, id⟩

theorem RelB.weak {R : Ref} {w : World} {S : Stab} {v : Value} {B Z : Box} (h : RelB R w S v B) (k : Box.weak B Z) : RelB R w S v Z := by
  cases B with
  | var g x =>
    cases Z with
    | var h' y =>
      obtain ⟨e, k⟩ := k
      subst e
      simp only at k
      subst k
      exact h
    | row _ _ _ _ => exact k.elim
  | row t g a f =>
    cases Z with
    | var _ _ => exact k.elim
    | row u h' b f' =>
      obtain ⟨e1, ⟨e2, k⟩, k2⟩ := k
      subst e1
      subst e2
      simp only at k
      subst k
      obtain ⟨cs, h1, h2, h3, h4, h5, h6⟩ := h
      exact ⟨cs, h1, h2, h3, h4, h5, fun blk hb => ⟨(h6 blk hb).1, fun o ho => ⟨k2 ((h6 blk hb).2 o ho).1, ((h6 blk hb).2 o ho).2⟩⟩⟩

theorem Box.weak.le {B Z : Box} (k : Box.weak B Z) : Box.le B Z := by
  cases B with
  | var g x =>
    cases Z with
    | var h' y =>
      obtain ⟨e, k⟩ := k
      subst e
      exact ⟨fun g p h => h, fun h => h⟩
    | row _ _ _ _ => exact k.elim
  | row t g a f =>
    cases Z with
    | var _ _ => exact k.elim
    | row u h' b f' =>
      obtain ⟨e1, ⟨e2, k⟩, k2⟩ := k
      subst e1
      subst e2
      simp only at k
      subst k
      exact ⟨fun g p h => h, fun h => h⟩

/-- Fewer boxes, told with less. -/
theorem InvM.weak {R : Ref} {M : Mem} (I : InvM R M) {bs : Bxs} (h : ∀ b d Z, lk b bs = some (d, Z) → ∃ d' B, lk b M.bs = some (d', B) ∧ Box.weak B Z) : InvM R { M with bs := bs } :=
  ⟨I.os, I.tape, I.output, I.size, I.frame, I.old, I.here, fun b d Z hb => by
    obtain ⟨d', B, h1, h2⟩ := h b d Z hb
    exact (I.boxes b d' B h1).weak h2, fun b c d Z d' Z' hne hb hc => by
    obtain ⟨d1, B1, h1, _⟩ := h b d Z hb
    obtain ⟨d2, B2, h2, _⟩ := h c d' Z' hc
    exact I.sep b c d1 B1 d2 B2 hne h1 h2⟩

theorem live_has {bs : Bxs} {v : AV} (h : live bs v = true) : ∀ b, lk b bs = none → v.has b = false := by
  intro b hb
  cases v with
  | ptr c g p =>
    simp only [AV.has]
    cases hh : Nat.beq c b with
    | false => rfl
    | true =>
      have := Nat.eq_of_beq_eq_true hh
      subst this
      simp [live, hb] at h
  | tip c =>
    simp only [AV.has]
    cases hh : Nat.beq c b with
    | false => rfl
    | true =>
      have := Nat.eq_of_beq_eq_true hh
      subst this
      simp [live, hb] at h
  | undef => simp [live] at h
  | tup l => simp [live] at h
  | clo f l => simp [live] at h
  | cst _ => rfl
  | val _ _ => rfl
  | ref _ _ => rfl

theorem RelV.weak {M : Mem} {bs : Bxs} (h : ∀ b d Z, lk b bs = some (d, Z) → ∃ d' B, lk b M.bs = some (d', B) ∧ Box.weak B Z) {v : AV} {u : Value} (hr : RelV M v u) (hl : live bs v = true) : RelV { M with bs := bs } v u := by
  have st : Step M { M with bs := bs } (fun b => lk b bs = none) := by
   refine ⟨Keeps.refl _ _, fun b d B hb hK => ?_⟩
   cases hz : lk b bs with
   | none => exact absurd hz hK
   | some y =>
     obtain ⟨d', Z⟩ := y
     obtain ⟨d1, B1, h1, h2⟩ := h b d' Z hz
     rw [h1] at hb
     simp only [Option.some.injEq, Prod.mk.injEq] at hb
     obtain ⟨rfl, rfl⟩ := hb
     exact ⟨d', Z, rfl, rfl, h2.le⟩
  exact hr.step st (live_has hl)

section
variable {R : Ref} {s s' : St} {a a' : Act} {w : World}

/-- Other marks. -/
theorem IsSt.marks (h : IsSt R s a w) (ht : ∀ t, s'.look t = s.look t) (hb : ∀ b, (lk b s'.boxes).map (·.2) = (lk b s.boxes).map (·.2)) : IsSt R s' a w := by
  obtain ⟨M, hM, e, I, hr⟩ := h
  have hw : ∀ b d Z, lk b s'.boxes = some (d, Z) → ∃ d' B, lk b M.bs = some (d', B) ∧ Box.weak B Z := by
    intro b d Z hz
    have := hb b
    rw [hz] at this
    cases hl : lk b s.boxes with
    | none => rw [hl] at this; simp at this
    | some y =>
      rw [hl] at this
      simp only [Option.map_some, Option.some.injEq] at this
      exact ⟨y.1, y.2, by rw [e, hl], this ▸ Box.weak_refl _⟩
  refine ⟨{ M with bs := s'.boxes }, hM, rfl, I.weak hw, fun t => ?_⟩
  rw [ht]
  have st : Step M { M with bs := s'.boxes } (fun _ => False) := by
    refine ⟨Keeps.refl _ _, fun b d B hB _ => ?_⟩
    have := hb b
    rw [e] at hB
    rw [hB] at this
    cases hl : lk b s'.boxes with
    | none => rw [hl] at this; simp at this
    | some y =>
      rw [hl] at this
      simp only [Option.map_some, Option.some.injEq] at this
      exact ⟨y.1, y.2, rfl, rfl, this ▸ Box.le_refl _⟩
  exact (hr t).steps st

theorem IsSt.clean (h : IsSt R s a w) : IsSt R s.clean a w := h.marks (fun _ => rfl) (fun b => by rw [clean_boxes]; cases lk b s.boxes <;> rfl)
theorem IsSt.remark (h : IsSt R s a w) (old : St) : IsSt R (s.remark old) a w := h.marks (fun _ => rfl) (fun b => by rw [remark_boxes]; cases lk b s.boxes <;> rfl)

theorem Apart.remark {W : Nat → Prop} (h : Apart W s.clean a s' a') : Apart W s a (s'.remark s) a' := by
  refine ⟨h.size, h.defers, h.tmps, h.look, fun b B hb => ?_⟩
  rw [remark_boxes] at hb
  cases hl : lk b s'.boxes with
  | none => rw [hl] at hb; simp at hb
  | some y =>
    rw [hl] at hb
    simp only [Option.map_some, Option.some.injEq, Prod.mk.injEq, Bool.or_eq_false_iff] at hb
    obtain ⟨⟨h1, h2⟩, h3⟩ := hb
    have := h.boxes b B (by rw [hl]; obtain ⟨y1, y2⟩ := y; simp only at h1 h3; rw [h1, h3])
    rw [clean_boxes] at this
    cases hs : lk b s.boxes with
    | none => rw [hs] at this; simp at this
    | some z =>
      rw [hs] at this h2
      obtain ⟨z1, z2⟩ := z
      simp only [Option.map_some, Option.some.injEq, Prod.mk.injEq, true_and] at this h2
      rw [h2, this]

theorem mergeBox_weak {x : Bool} {A B Z : Box} (h : mergeBox x A B = some Z) : Box.weak (if x then A else B) Z := by
  cases A with
  | var g p =>
    cases B with
    | row _ _ _ _ => simp [mergeBox] at h
    | var g' q =>
      simp only [mergeBox] at h
      split at h
      · rename_i e _
        subst e
        simp only [Option.some.injEq] at h
        subst h
        cases x <;> exact ⟨rfl, rfl⟩
      · cases h
  | row t g p f =>
    cases B with
    | var _ _ => simp [mergeBox] at h
    | row u g' q f' =>
      simp only [mergeBox] at h
      split at h
      · rename_i e1 e2 c1 c2
        clear c1 c2
        subst e1
        subst e2
        simp only [Option.some.injEq] at h
        subst h
        cases x
        · exact ⟨rfl, ⟨rfl, rfl⟩, fun hf => by simp [hf]⟩
        · exact ⟨rfl, ⟨rfl, rfl⟩, fun hf => by simp [hf]⟩
      · cases h

theorem mergeBoxes_spec {x : Bool} {sb m : Bxs} {b : Nat} : ∀ {l r : Bxs}, mergeBoxes x sb m l = some r → ∀ {d Z}, lk b r = some (d, Z) →
    ∃ da Ba db Bb, lk b l = some (da, Ba) ∧ lk b m = some (db, Bb) ∧ ((d = false ∧ da = false ∧ db = false ∧ ∃ d0, lk b sb = some (d0, Z)) ∨ (d = true ∧ mergeBox x Ba Bb = some Z))
  | [], r, h, d, Z, hz => by
    simp only [mergeBoxes, Option.some.injEq] at h
    subst h
    simp [lk] at hz
  | (c, da, Ba) :: l, r, h, d, Z, hz => by
    simp only [mergeBoxes] at h
    cases hm : lk c m with
    | none =>
      rw [hm] at h
      simp only at h
      obtain ⟨da', Ba', db, Bb, h1, h2, h3⟩ := mergeBoxes_spec h hz
      have hne : Nat.beq c b = false := by
        cases hb : Nat.beq c b with
        | false => rfl
        | true => rw [Nat.eq_of_beq_eq_true hb] at hm; rw [hm] at h2; cases h2
      exact ⟨da', Ba', db, Bb, by simp only [lk, hne]; exact h1, h2, h3⟩
    | some y =>
      obtain ⟨db, Bb⟩ := y
      rw [hm] at h
      simp only at h
      cases hd : (da || db) with
      | false =>
        rw [hd] at h
        simp only [Bool.or_eq_false_iff] at hd
        simp only at h
        split at h
        · rename_i d0 Z0 r' hs hr
          simp only [Option.some.injEq] at h
          subst h
          simp only [lk] at hz
          cases hb : Nat.beq c b with
          | true =>
            rw [hb] at hz
            have := Nat.eq_of_beq_eq_true hb
            subst this
            simp only [Option.some.injEq, Prod.mk.injEq] at hz
            obtain ⟨rfl, rfl⟩ := hz
            exact ⟨da, Ba, db, Bb, by simp [lk], hm, .inl ⟨rfl, hd.1, hd.2, d0, hs⟩⟩
          | false =>
            rw [hb] at hz
            obtain ⟨da', Ba', db', Bb', h1, h2, h3⟩ := mergeBoxes_spec hr hz
            exact ⟨da', Ba', db', Bb', by simp only [lk, hb]; exact h1, h2, h3⟩
        · cases h
      | true =>
        rw [hd] at h
        simp only at h
        split at h
        · rename_i Z0 r' hs hr
          simp only [Option.some.injEq] at h
          subst h
          simp only [lk] at hz
          cases hb : Nat.beq c b with
          | true =>
            rw [hb] at hz
            have := Nat.eq_of_beq_eq_true hb
            subst this
            simp only [Option.some.injEq, Prod.mk.injEq] at hz
            obtain ⟨rfl, rfl⟩ := hz
            exact ⟨da, Ba, db, Bb, by simp [lk], hm, .inr ⟨rfl, hs⟩⟩
          | false =>
            rw [hb] at hz
            obtain ⟨da', Ba', db', Bb', h1, h2, h3⟩ := mergeBoxes_spec hr hz
            exact ⟨da', Ba', db', Bb', by simp only [lk, hb]; exact h1, h2, h3⟩
        · cases h

theorem lk_append {α : Type} (t : Nat) : ∀ l m : List (Nat × α), lk t (l ++ m) = match lk t l with | some v => some v | none => lk t m
  | [], m => rfl
  | (j, v) :: l, m => by
    simp only [List.cons_append, lk]
    cases Nat.beq j t with
    | true => rfl
    | false => exact lk_append t l m

theorem lk_newTmps {x : Bool} {bs : Bxs} {sa sb : St} {t : Nat} : ∀ W : List Nat, lk t (newTmps x bs sa sb W) = if memN t W = true then some (match live bs (mergeAV x (sa.look t) (sb.look t)) with | true => mergeAV x (sa.look t) (sb.look t) | false => .undef) else none
  | [] => by simp [newTmps, memN, lk]
  | j :: W => by
    simp only [newTmps, lk, memN]
    cases hb : Nat.beq j t with
    | true =>
      have := Nat.eq_of_beq_eq_true hb
      subst this
      cases hl : live bs (mergeAV x (sa.look j) (sb.look j)) <;> simp [hl]
    | false =>
      have hb' : Nat.beq t j = false := by
        cases hh : Nat.beq t j with
        | false => rfl
        | true => rw [Nat.eq_of_beq_eq_true hh] at hb; simp at hb
      simp only [lk_newTmps W, hb', Bool.false_or]

theorem lk_mergeTmps {bs : Bxs} {W : List Nat} {sa sb : St} {t : Nat} : ∀ l : List (Nat × AV), lk t (mergeTmps bs W sa sb l) = (lk t l).map fun v => match memN t W || isUndef (sa.look t) || isUndef (sb.look t) || !(live bs v) with | true => AV.undef | false => v
  | [] => rfl
  | (j, v) :: l => by
    simp only [mergeTmps, lk]
    cases hb : Nat.beq j t with
    | true =>
      have := Nat.eq_of_beq_eq_true hb
      subst this
      rfl
    | false => exact lk_mergeTmps l

theorem mergeAV_rel {M : Mem} {x : Bool} {va vb : AV} {u : Value} (h : RelV M (if x then va else vb) u) : RelV M (mergeAV x va vb) u := by
  unfold mergeAV
  split
  · split
    · rename_i e _
      subst e
      cases x <;> exact h
    · simp [RelV]
  · split
    · rename_i hb
      have := Nat.eq_of_beq_eq_true hb
      subst this
      cases x <;> exact h
    · simp [RelV]
  · split
    · rename_i e hb _
      have := Nat.eq_of_beq_eq_true hb
      subst this
      subst e
      cases x <;> exact h
    · simp [RelV]
  · simp [RelV]

theorem isUndef_false {v : AV} (h : isUndef v = false) : v ≠ .undef := by
  rintro rfl
  simp [isUndef] at h

/-- Behind a fork. -/
theorem merge_sound {x : Bool} {W : List Nat} {sa sb m : St} (hm : mergeSt x W s sa sb = some m) (hs : IsSt R (if x then sa else sb) a' w) (ha : Apart (fun t => t ∈ W) s a (if x then sa else sb) a') :
    IsSt R m a' w ∧ Apart (fun t => t ∈ W) s a m a' := by
  unfold mergeSt at hm
  split at hm
  · cases hm
  rename_i bs hbs
  simp only [Option.some.injEq] at hm
  subst hm
  obtain ⟨M, hM, e, I, hr⟩ := hs
  have key : ∀ b d Z, lk b bs = some (d, Z) → ∃ d' B, lk b (if x then sa else sb).boxes = some (d', B) ∧ Box.weak B Z ∧ (d = false → d' = false ∧ B = Z) := by
    intro b d Z hz
    obtain ⟨da, Ba, db, Bb, h1, h2, h3⟩ := mergeBoxes_spec hbs hz
    have hx : lk b (if x then sa else sb).boxes = some (if x then da else db, if x then Ba else Bb) := by cases x <;> simpa using by assumption
    rcases h3 with ⟨rfl, rfl, rfl, d0, h3⟩ | ⟨rfl, h3⟩
    · have hx' : lk b (if x then sa else sb).boxes = some (false, if x then Ba else Bb) := by rw [hx]; cases x <;> rfl
      have := ha.boxes b _ hx'
      rw [h3] at this
      simp only [Option.some.injEq, Prod.mk.injEq] at this
      refine ⟨_, _, hx', ?_, fun _ => ⟨rfl, this.2.symm⟩⟩
      rw [← this.2]
      exact Box.weak_refl _
    · exact ⟨_, _, hx, mergeBox_weak h3, fun h => by cases h⟩
  have hw : ∀ b d Z, lk b bs = some (d, Z) → ∃ d' B, lk b M.bs = some (d', B) ∧ Box.weak B Z := by
    intro b d Z hz
    obtain ⟨d', B, h1, h2, _⟩ := key b d Z hz
    exact ⟨d', B, by rw [e]; exact h1, h2⟩
  have hlook : ∀ t, St.look { tmps := newTmps x bs sa sb W ++ mergeTmps bs W sa sb s.tmps, boxes := bs } t =
      if memN t W = true then (match live bs (mergeAV x (sa.look t) (sb.look t)) with | true => mergeAV x (sa.look t) (sb.look t) | false => .undef)
      else match memN t W || isUndef (sa.look t) || isUndef (sb.look t) || !(live bs (s.look t)) with | true => AV.undef | false => s.look t := by
    intro t
    unfold St.look
    simp only
    rw [lk_append, lk_newTmps]
    split
    · rename_i v hv
      split at hv
      · simp only [Option.some.injEq] at hv
        rename_i hw
        rw [if_pos hw, ← hv]
        rfl
      · cases hv
    · rename_i hv
      split at hv
      · cases hv
      · rename_i hw
        rw [if_neg hw, lk_mergeTmps]
        cases lk t s.tmps with
        | none =>
          simp only [Option.map_none, Option.getD_none]
          split <;> rfl
        | some v => rfl
  refine ⟨⟨{ M with bs := bs }, hM, rfl, I.weak hw, fun t => ?_⟩, ha.size, ha.defers, ha.tmps, fun t ht => ?_, fun b B hb => ?_⟩
  · rw [hlook]
    split
    · split
      · rename_i hl
        refine RelV.weak hw (mergeAV_rel ?_) hl
        have := hr t
        cases x <;> exact this
      · simp [RelV]
    · rename_i hW
      split
      · simp [RelV]
      · rename_i hc
        simp only [Bool.or_eq_false_iff, Bool.not_eq_false'] at hc
        obtain ⟨⟨⟨_, h1⟩, h2⟩, h3⟩ := hc
        refine RelV.weak hw ?_ h3
        have hne : (if x then sa else sb).look t ≠ .undef := by
          cases x with
          | true => exact isUndef_false h1
          | false => exact isUndef_false h2
        rcases ha.look t (fun hm => hW (memN_iff.2 hm)) with h | h
        · exact absurd h hne
        · rw [← h]; exact hr t
  · rw [hlook, if_neg (fun hm => ht (memN_iff.1 hm))]
    split
    · exact .inl rfl
    · exact .inr rfl
  · obtain ⟨d', B', h1, h2, h3⟩ := key b false B hb
    obtain ⟨rfl, rfl⟩ := h3 rfl
    exact ha.boxes b _ h1
end

theorem single_holds {α : Type} : ∀ {t : Tree α} {ps : List Prop} {a : α}, t.single = some (ps, a) → (∀ p ∈ ps, p) → t.holds (fun y => y = a)
  | .leaf b, ps, a, h, _ => by
    simp only [Tree.single, Option.some.injEq, Prod.mk.injEq] at h
    exact h.2
  | .need p t, ps, a, h, hp => by
    simp only [Tree.single] at h
    split at h
    · rename_i qs b hq
      simp only [Option.some.injEq, Prod.mk.injEq] at h
      obtain ⟨rfl, rfl⟩ := h
      exact ⟨hp p (by simp), single_holds hq (fun q hq => hp q (by simp [hq]))⟩
    · cases h
  | .br _ _ _, _, _, h, _ => by simp [Tree.single] at h
  | .stuck, _, _, h, _ => by simp [Tree.single] at h

theorem needs_holds {α : Type} {F : α → Prop} {c : Bool} : ∀ {ps : List Prop} {t : Tree α}, (Tree.needs c ps t).holds F → (c = true → ∀ p ∈ ps, p) ∧ t.holds F
  | [], t, h => ⟨fun _ p hp => by simp at hp, h⟩
  | p :: ps, t, h => by
    obtain ⟨h1, h2⟩ := h
    obtain ⟨h3, h4⟩ := needs_holds h2
    refine ⟨fun hc q hq => ?_, h4⟩
    rcases List.mem_cons.1 hq with rfl | hq
    · exact h1 hc
    · exact h3 hc q hq

theorem mem_dedup {t : Nat} : ∀ {l : List Nat}, t ∈ dedupN l ↔ t ∈ l
  | [] => by simp [dedupN]
  | x :: l => by
    simp only [dedupN]
    cases hx : memN x l with
    | true =>
      simp only [mem_dedup (l := l), List.mem_cons]
      exact ⟨.inr, fun h => h.elim (fun e => e ▸ memN_iff.1 hx) id⟩
    | false =>
      simp only [List.mem_cons, mem_dedup (l := l)]
end Go.Ev
