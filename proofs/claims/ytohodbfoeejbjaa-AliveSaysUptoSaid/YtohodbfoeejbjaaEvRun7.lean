/- Loops. -/
import Derived.Test.YtohodbfoeejbjaaEvRun6
set_option linter.unusedVariables false
set_option linter.unusedSimpArgs false
namespace Go.Ev

/-- As 'Apart', but for the boxes' marks. -/
structure Far (W : Nat → Prop) (s : St) (a : Act) (s' : St) (a' : Act) : Prop where
  size : a'.tmps.size = a.tmps.size
  defers : a'.defers = a.defers
  tmps : ∀ t, ¬ W t → a'.tmps.getD t undef = a.tmps.getD t undef
  look : ∀ t, ¬ W t → s'.look t = .undef ∨ s'.look t = s.look t

theorem Far.refl (W : Nat → Prop) (s : St) (a : Act) : Far W s a s a := ⟨rfl, rfl, fun _ _ => rfl, fun _ _ => .inr rfl⟩
theorem Far.trans {W : Nat → Prop} {s s' s'' : St} {a a' a'' : Act} (h : Far W s a s' a') (k : Far W s' a' s'' a'') : Far W s a s'' a'' :=
  ⟨k.size.trans h.size, k.defers.trans h.defers, fun t ht => (k.tmps t ht).trans (h.tmps t ht), fun t ht => by
    rcases k.look t ht with h1 | h1
    · exact .inl h1
    · rcases h.look t ht with h2 | h2
      · exact .inl (h1.trans h2)
      · exact .inr (h1.trans h2)⟩
theorem Apart.far {W : Nat → Prop} {s s' : St} {a a' : Act} (h : Apart W s a s' a') : Far W s a s' a' := ⟨h.size, h.defers, h.tmps, h.look⟩

def Ex.to : Ex → Exit
  | .normal => .normal
  | .exit id => .exit id
  | .ret => .ret

theorem keepB_spec {b : Nat} : ∀ {l : List Nat} {s r : Bxs}, keepB l s = some r → (∀ {d B}, lk b r = some (d, B) → d = false ∧ b ∈ l ∧ ∃ d', lk b s = some (d', B)) ∧ (b ∈ l → ∃ d B, lk b r = some (d, B))
  | [], s, r, h => by
    simp only [keepB, Option.some.injEq] at h
    subst h
    exact ⟨fun h => by simp [lk] at h, fun h => by simp at h⟩
  | c :: l, s, r, h => by
    simp only [keepB] at h
    split at h
    · rename_i d0 B0 r' hs hr
      simp only [Option.some.injEq] at h
      subst h
      obtain ⟨ih1, ih2⟩ := keepB_spec (b := b) hr
      simp only [lk]
      cases hb : Nat.beq c b with
      | true =>
        have := Nat.eq_of_beq_eq_true hb
        subst this
        refine ⟨fun h => ?_, fun _ => ⟨_, _, rfl⟩⟩
        simp only [Option.some.injEq, Prod.mk.injEq] at h
        obtain ⟨rfl, rfl⟩ := h
        exact ⟨rfl, by simp, d0, hs⟩
      | false =>
        have hne : b ≠ c := fun h => by rw [h] at hb; simp at hb
        refine ⟨fun h => ?_, fun h => ih2 (by simpa [hne] using h)⟩
        obtain ⟨h1, h2, h3⟩ := ih1 h
        exact ⟨h1, by simp [h2], h3⟩
    · cases h

theorem lk_keepT (s : St) (t : Nat) : ∀ l : List Nat, lk t (keepT l s) = if memN t l = true then some (s.look t) else none
  | [] => by simp [keepT, memN, lk]
  | j :: l => by
    have ih := lk_keepT s t l
    simp only [keepT, List.map_cons, lk, memN] at ih ⊢
    cases hb : Nat.beq j t with
    | true =>
      have := Nat.eq_of_beq_eq_true hb
      subst this
      simp
    | false =>
      have hb' : Nat.beq t j = false := by
        cases hh : Nat.beq t j with
        | false => rfl
        | true => rw [Nat.eq_of_beq_eq_true hh] at hb; simp at hb
      simp only [hb', Bool.false_or]
      exact ih

section
variable {P : Program} {C : Ctx} {R : Ref} {s s' : St} {a a' : Act} {w : World} {L : LoopSpec}

structure Restr (L : LoopSpec) (s s' : St) : Prop where
  box : ∀ b d B, lk b s'.boxes = some (d, B) → d = false ∧ b ∈ L.boxes ∧ ∃ d', lk b s.boxes = some (d', B)
  has : ∀ b, b ∈ L.boxes → ∃ d B, lk b s'.boxes = some (d, B)
  look : ∀ t, s'.look t = if memN t L.keep = true then s.look t else .undef
  tmp : ∀ t, lk t s'.tmps = if memN t L.keep = true then some (s.look t) else none
  live : ∀ t, memN t L.keep = true → s.look t = .undef ∨ Ev.live s'.boxes (s.look t) = true

theorem restrict_spec (h : restrict L s = some s') : Restr L s s' := by
  unfold restrict at h
  split at h
  · cases h
  rename_i bs hb
  split at h
  · rename_i hl
    simp only [Option.some.injEq] at h
    subst h
    refine ⟨fun b d B hB => (keepB_spec hb).1 hB, fun b hB => (keepB_spec hb).2 hB, fun t => ?_, fun t => lk_keepT s t _, fun t ht => ?_⟩
    · show (lk t (keepT L.keep s)).getD .undef = _
      rw [lk_keepT]
      split <;> rfl
    · rw [List.all_eq_true] at hl
      have : (t, s.look t) ∈ keepT L.keep s := by
        unfold keepT
        exact List.mem_map.2 ⟨t, memN_iff.1 ht, rfl⟩
      have := hl _ this
      simp only [Bool.or_eq_true] at this
      rcases this with h | h
      · left
        cases hv : s.look t <;> rw [hv] at h <;> simp [isUndef] at h ⊢
      · exact .inr h
  · cases h

theorem Restr.weak {M : Mem} (H : Restr L s s') (hb : M.bs = s.boxes) : ∀ b d Z, lk b s'.boxes = some (d, Z) → ∃ d' B, lk b M.bs = some (d', B) ∧ Box.weak B Z := by
  intro b d Z hz
  obtain ⟨_, _, d', h⟩ := H.box b d Z hz
  exact ⟨d', Z, by rw [hb]; exact h, Box.weak_refl Z⟩

theorem Restr.rel {M : Mem} (H : Restr L s s') (hb : M.bs = s.boxes) (hr : ∀ t, RelV M (s.look t) (a.tmps.getD t undef)) (t : Nat) : RelV { M with bs := s'.boxes } (s'.look t) (a.tmps.getD t undef) := by
  rw [H.look]
  split
  · rename_i ht
    rcases H.live t ht with h | h
    · rw [h]; simp [RelV]
    · exact (hr t).weak (H.weak hb) h
  · simp [RelV]

theorem IsSt.restr (H : Restr L s s') (h : IsSt R s a w) : IsSt R s' a w := by
  obtain ⟨M, hM, hb, I, hr⟩ := h
  exact ⟨{ M with bs := s'.boxes }, hM, rfl, I.weak (H.weak hb), H.rel hb hr⟩

theorem Restr.far (H : Restr L s s') (W : Nat → Prop) : Far W s a s' a := ⟨rfl, rfl, fun _ _ => rfl, fun t _ => by
  rw [H.look]
  split
  · exact .inr rfl
  · exact .inl rfl⟩

def BodyOK (P : Program) (C : Ctx) (body : Code) : Prop :=
  ∀ (R : Ref) (s : St) (a : Act) (w : World) (F : Ex × St → Prop), IsSt R s a w → (∀ t ∈ writes body, t < a.tmps.size) → (ev C body s).holds F →
    body.wp P (fun e a' w' => ∃ x s', e = x.to ∧ F (x, s') ∧ IsSt R s' a' w' ∧ Apart (fun t => t ∈ writes body) s a s' a') a w

/-- Round and round. -/
theorem loop_rounds {body : Code} (hB : BodyOK P C body) {F : Ex × St → Prop} {Q : Exit → Act → World → Prop} {s1 : St} {a1 : Act}
    (hQ : ∀ x sx s' a' w', x ≠ .normal → F (x, s') → IsSt R s' a' w' → Restr L sx s' → Far (fun t => t ∈ writes body) s1 a1 s' a' → Q x.to a' w') :
    ∀ (n : Nat) (s : St) (a : Act) (w : World), IsSt R s a w → (∀ t ∈ writes body, t < a.tmps.size) → Far (fun t => t ∈ writes body) s1 a1 s a → (iter L (ev C body) n s).holds F →
      ∀ (b : Frame) (k : List Item) (cs : List Frame), ∃ e a' w', Q e a' w' ∧ Arrives P (lone (b.at a (.code body :: .inLoop body :: k)) cs w) b k cs e a' w'
  | 0, s, a, w, _, _, _, h => h.elim
  | n + 1, s, a, w, hs, hsz, hf, h => by
    intro b k cs
    simp only [iter] at h
    have h' := holds_bind.1 h
    obtain ⟨e, a2, w2, ⟨x, s2, rfl, hF, hs2, hap⟩, harr⟩ := hB R s a w _ hs hsz h' b (.inLoop body :: k) cs
    simp only at hF
    split at hF
    · exact hF.elim
    rename_i s3 hr
    have H := restrict_spec hr
    have hs3 := hs2.restr H
    have hf3 : Far (fun t => t ∈ writes body) s1 a1 s3 a2 := (hf.trans hap.far).trans (H.far _)
    cases x with
    | normal =>
      obtain ⟨e, a', w', hq, harr'⟩ := loop_rounds hB hQ n s3 a2 w2 hs3 (fun t ht => by rw [hap.size]; exact hsz t ht) hf3 hF b k cs
      exact ⟨e, a', w', hq, .of_steps (Steps.trans harr (.one step_inLoop)) harr'⟩
    | exit id => exact ⟨_, a2, w2, hQ (.exit id) s2 s3 a2 w2 (by simp) hF hs3 H hf3, .pass (x := .inLoop body) rfl (fun _ _ => .inl (by simp [Ex.to])) harr⟩
    | ret => exact ⟨_, a2, w2, hQ .ret s2 s3 a2 w2 (by simp) hF hs3 H hf3, .pass (x := .inLoop body) rfl (fun _ _ => .inl (by simp [Ex.to])) harr⟩

theorem loop_wp {body : Code} (hB : BodyOK P C body) {F : Ex × St → Prop} {Q : Exit → Act → World → Prop} (hs : IsSt R s a w) (hsz : ∀ t ∈ writes body, t < a.tmps.size) {n : Nat} (h : (iter L (ev C body) n s).holds F)
    (hQ : ∀ x sx s' a' w', x ≠ .normal → F (x, s') → IsSt R s' a' w' → Restr L sx s' → Far (fun t => t ∈ writes body) s a s' a' → Q x.to a' w') : (Code.loop body).wp P Q a w := by
  intro b k cs
  obtain ⟨e, a', w', hq, harr⟩ := loop_rounds hB hQ n s a w hs hsz (Far.refl _ _ _) h b k cs
  exact ⟨e, a', w', hq, .of_steps (.one step_loop) harr⟩

/-- Nil slices become rows. -/
theorem promote_sound : ∀ {l : List (Nat × Nat × Nat × GTy)} {s s0 : St}, promote s l = some s0 → IsSt R s a w → IsSt R s0 a w ∧ (∀ t, (∀ p ∈ l, p.1 ≠ t) → s0.look t = s.look t) ∧ (∀ b B, lk b s0.boxes = some (false, B) → lk b s.boxes = some (false, B))
  | [], s, s0, h, hs => by
    simp only [promote, Option.some.injEq] at h
    subst h
    exact ⟨hs, fun _ _ => rfl, fun _ _ h => h⟩
  | (t, k, e, g) :: l, s, s0, h, hs => by
    simp only [promote] at h
    split at h
    · rename_i hv
      split at h
      · rename_i hk hg
        have hk' : lk k s.boxes = none := by simpa [St.box] using hk
        have hg' : 0 < ncell g := by simpa [Nat.blt_eq] using hg
        have step : IsSt R { tmps := st' t (.tip k) s.tmps, boxes := st' k (true, .row e g [] false) s.boxes } a w := by
          obtain ⟨M, rfl, hb, I, hr⟩ := hs
          have hB : RelB R M.w M.S (.slice none 0 0) (.row e g [] false) :=
            ⟨[], World.ownsRow_nil _ _ _ _, rfl, by simp [maxRow], by simp [maxRow], hg', fun blk hbk => by simp [blkOf] at hbk⟩
          have I2 := I.setBox (w' := M.w) (S' := M.S) k (.row e g [] false) true rfl rfl rfl (Nat.le_refl _) (fun _ _ _ => rfl) (Keeps.refl _ _) (fun _ _ h => .inl h) hB (fun x hx => by simp [blkOf] at hx)
          have st : Step M { M with β := fun c => if c = k then .slice none 0 0 else M.β c, bs := st' k (true, .row e g [] false) M.bs } (fun c => c = k) :=
            ⟨Keeps.refl _ _, fun c d B hc hne => ⟨d, B, by simp only [lk_st]; simp [hne, hc], by simp [hne], Box.le_refl B⟩⟩
          refine ⟨{ M with β := fun c => if c = k then .slice none 0 0 else M.β c, bs := st' k (true, .row e g [] false) M.bs }, rfl, by rw [← hb], I2, fun u => ?_⟩
          show RelV _ ((lk u (st' t (.tip k) s.tmps)).getD .undef) _
          rw [lk_st]
          by_cases hu : u = t
          · rw [if_pos hu]
            have := hr u
            rw [hu, hv] at this
            simp only [RelV] at this
            simp only [Option.getD_some, RelV]
            rw [hu, this]
            exact ⟨⟨true, _, lk_st_same _ _ _, trivial⟩, by simp⟩
          · rw [if_neg hu]
            refine (hr u).step st (fun b hbk => ?_)
            subst hbk
            cases hh : (s.look u).has b with
            | false => rfl
            | true => exact absurd (by rw [hb]; exact hk') ((hr u).has_box b hh)
        obtain ⟨h1, h2, h3⟩ := promote_sound h step
        refine ⟨h1, fun u hu => ?_, fun b B hB => ?_⟩
        · rw [h2 u (fun p hp => hu p (by simp [hp]))]
          show (lk u (st' t (.tip k) s.tmps)).getD .undef = _
          rw [lk_st, if_neg (fun h => hu (t, k, e, g) (by simp) h.symm)]
          rfl
        · have := h3 b B hB
          simp only [lk_st] at this
          split at this
          · simp at this
          · exact this
      · cases h
    · obtain ⟨h1, h2, h3⟩ := promote_sound h hs
      exact ⟨h1, fun u hu => h2 u (fun p hp => hu p (by simp [hp])), h3⟩
    · cases h
end
end Go.Ev
