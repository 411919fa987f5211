/- Into a loop, and out of it. -/
import Derived.Test.YtohodbfoeejbjaaEvRun7
set_option linter.unusedVariables false
set_option linter.unusedSimpArgs false
namespace Go.Ev

def subRef (M : Mem) (L : LoopSpec) : Ref where
  w0 := M.w
  own k := ∃ b, b ∈ L.boxes ∧ (∃ d B, lk b M.bs = some (d, B)) ∧ blkOf (M.β b) = some k
  S0 := M.S

theorem RelB.renew {R R' : Ref} {w : World} {S : Stab} {v : Value} {B : Box} (h : RelB R w S v B) (hn : ∀ blk, blkOf v = some blk → R'.new blk) : RelB R' w S v B := by
  cases B with
  | var g x =>
    obtain ⟨blk, cs, e, rfl, h2, h3, h4, h5⟩ := h
    exact ⟨blk, cs, e, rfl, h2, h3, h4, hn blk rfl⟩
  | row e g xs fz =>
    obtain ⟨cs, h1, h2, h3, h4, h5, h6⟩ := h
    exact ⟨cs, h1, h2, h3, h4, h5, fun blk hb => ⟨hn blk hb, (h6 blk hb).2⟩⟩

section
variable {P : Program} {C : Ctx} {R : Ref} {s0 s1 s2 sx : St} {a a' : Act} {w : World} {L : LoopSpec} {M : Mem}

theorem enter (I : InvM R M) (hb : M.bs = s0.boxes) (hr : ∀ t, RelV M (s0.look t) (a.tmps.getD t undef)) (H : Restr L s0 s1) : IsSt (subRef M L) s1 a M.w := by
  refine ⟨{ M with bs := s1.boxes }, rfl, rfl, ⟨rfl, rfl, rfl, Nat.le_refl _, fun _ _ _ => rfl, Keeps.refl _ _, fun b o h => ⟨.inl h, (I.here b o h).2⟩, fun b d B hB => ?_, fun b c d B d' B' hne hB hC => ?_⟩, H.rel hb hr⟩
  · obtain ⟨_, h1, d', h2⟩ := H.box b d B hB
    rw [← hb] at h2
    exact (I.boxes b d' B h2).renew (fun blk hblk => .inr ⟨b, h1, ⟨d', B, h2⟩, hblk⟩)
  · obtain ⟨_, _, d1, h1⟩ := H.box b d B hB
    obtain ⟨_, _, d2, h2⟩ := H.box c d' B' hC
    rw [← hb] at h1 h2
    exact I.sep b c d1 B d2 B' hne h1 h2

theorem lk_mapT (f : Nat → AV → AV) (t : Nat) : ∀ l : List (Nat × AV), lk t (l.map fun (x : Nat × AV) => (x.1, f x.1 x.2)) = (lk t l).map (f t)
  | [] => rfl
  | (j, v) :: l => by
    simp only [List.map_cons, lk]
    cases hb : Nat.beq j t with
    | true => rw [Nat.eq_of_beq_eq_true hb]; rfl
    | false => exact lk_mapT f t l

def outB (L : LoopSpec) (s0 : St) : Bxs := s0.boxes.filter fun x => !(memN x.1 L.boxes)

theorem rejoin_boxes (W : List Nat) (b : Nat) : lk b (rejoin L W s0 s2).boxes = match lk b s2.boxes with | some (_, B) => some (true, B) | none => lk b (outB L s0) := by
  show lk b (s2.boxes.map (fun (x : Nat × Bool × Box) => (x.1, true, x.2.2)) ++ outB L s0) = _
  rw [lk_append, lk_marks (fun _ _ => true)]
  cases lk b s2.boxes <;> rfl

theorem lk_outB (b : Nat) : lk b (outB L s0) = if memN b L.boxes = true then none else lk b s0.boxes := lk_filter L.boxes b s0.boxes

theorem rejoin_look (H : Restr L sx s2) (W : List Nat) (t : Nat) : (rejoin L W s0 s2).look t = if memN t L.keep = true then s2.look t else match !(memN t W) && !(memN t L.keep) && live (outB L s0) (s0.look t) with | true => s0.look t | false => .undef := by
  show (lk t (s2.tmps ++ s0.tmps.map (fun (x : Nat × AV) => (x.1, match !(memN x.1 W) && !(memN x.1 L.keep) && live (outB L s0) x.2 with | true => x.2 | false => AV.undef)))).getD .undef = _
  rw [lk_append, lk_mapT (fun t v => match !(memN t W) && !(memN t L.keep) && live (outB L s0) v with | true => v | false => AV.undef), H.tmp]
  split
  · rename_i v hv
    split at hv
    · rename_i hk
      simp only [Option.some.injEq] at hv
      rw [if_pos hk, H.look, if_pos hk, hv]
      rfl
    · cases hv
  · rename_i hv
    split at hv
    · cases hv
    · rename_i hk
      rw [if_neg hk]
      unfold St.look
      cases lk t s0.tmps with
      | none =>
        simp only [Option.map_none, Option.getD_none]
        split <;> rfl
      | some v => rfl

theorem leave (I : InvM R M) (hb : M.bs = s0.boxes) (hr : ∀ t, RelV M (s0.look t) (a.tmps.getD t undef)) (H1 : Restr L s0 s1) (h2 : IsSt (subRef M L) s2 a' w) (H : Restr L sx s2) {W : List Nat} (hf : Far (fun t => t ∈ W) s1 a s2 a') :
    IsSt R (rejoin L W s0 s2) a' w ∧ Apart (fun t => t ∈ W) s0 a (rejoin L W s0 s2) a' := by
  obtain ⟨M2, rfl, hb2, I2, hr2⟩ := h2
  have hnew : ∀ k, (subRef M L).new k → R.new k := by
    intro k hk
    rcases hk with hk | ⟨b, _, ⟨d, B, h1⟩, h2⟩
    · exact .inl (Nat.le_trans I.size hk)
    · exact (I.boxes b d B h1).new k h2
  have hown : ∀ {b d B k}, b ∉ L.boxes → lk b M.bs = some (d, B) → blkOf (M.β b) = some k → k < M.w.heap.size ∧ ¬ (subRef M L).new k := by
    intro b d B k hbL hB hk
    have hlt := (I.boxes b d B hB).lt k hk
    refine ⟨hlt, fun hn => ?_⟩
    rcases hn with hn | ⟨c, hc, ⟨d', B', h1⟩, h2⟩
    · exact absurd hlt (Nat.not_lt.2 hn)
    · exact I.sep b c d B d' B' (fun h => hbL (h ▸ hc)) hB h1 k hk h2
  have hk : Keeps M.S M2.S M.w M2.w := I2.old
  have hs2 : ∀ b d B, lk b s2.boxes = some (d, B) → b ∈ L.boxes := fun b d B h => (H.box b d B h).2.1
  have hin : ∀ b, b ∈ L.boxes → lk b s2.boxes ≠ none := fun b h => by
    obtain ⟨d, B, h1⟩ := H.has b h
    rw [h1]; simp
  have hbox : ∀ b d B, lk b (rejoin L W s0 s2).boxes = some (d, B) → (b ∈ L.boxes ∧ (∃ d', lk b M2.bs = some (d', B)) ∧ d = true) ∨ (b ∉ L.boxes ∧ lk b M.bs = some (d, B) ∧ lk b (outB L s0) = some (d, B)) := by
    intro b d B h
    rw [rejoin_boxes] at h
    split at h
    · rename_i d' B' h'
      simp only [Option.some.injEq, Prod.mk.injEq] at h
      obtain ⟨rfl, rfl⟩ := h
      exact .inl ⟨hs2 b d' _ h', ⟨d', by rw [hb2]; exact h'⟩, rfl⟩
    · have h0 := h
      rw [lk_outB] at h
      split at h
      · cases h
      · rename_i hm
        exact .inr ⟨fun hh => hm (memN_iff.2 hh), by rw [hb]; exact h, h0⟩
  let β : Nat → Value := fun b => if memN b L.boxes = true then M2.β b else M.β b
  have β1 : ∀ b, b ∈ L.boxes → β b = M2.β b := fun b h => if_pos (memN_iff.2 h)
  have β2 : ∀ b, b ∉ L.boxes → β b = M.β b := fun b h => if_neg (fun hh => h (memN_iff.1 hh))
  have I3 : InvM R { w := M2.w, S := M2.S, β := β, bs := (rejoin L W s0 s2).boxes } := by
    refine ⟨I2.os.trans I.os, I2.tape.trans I.tape, I2.output.trans I.output, Nat.le_trans I.size I2.size, fun k hk1 hk2 => ?_, I.old.trans hk, fun b o hS => ?_, fun b d B hB => ?_, fun b c d B d' B' hne hB hC k => ?_⟩
    · refine (I2.frame k (Nat.lt_of_lt_of_le hk1 I.size) (fun ho => ?_)).trans (I.frame k hk1 hk2)
      rcases hnew k (.inr ho) with h | h
      · exact absurd hk1 (Nat.not_lt.2 h)
      · exact hk2 h
    · obtain ⟨h1, h2⟩ := I2.here b o hS
      refine ⟨?_, h2⟩
      rcases h1 with h1 | h1
      · exact (I.here b o h1).1
      · exact .inr (hnew b h1)
    · rcases hbox b d B hB with ⟨hL, ⟨d', h⟩, _⟩ | ⟨hL, h, _⟩
      · show RelB R M2.w M2.S (β b) B
        rw [β1 b hL]
        have := I2.boxes b d' B h
        exact this.renew (fun blk hblk => hnew blk (this.new blk hblk))
      · show RelB R M2.w M2.S (β b) B
        rw [β2 b hL]
        refine (I.boxes b d B h).move hk (fun blk hblk => ?_) (fun blk o hblk hS => ?_)
        · obtain ⟨h1, h2⟩ := hown hL h hblk
          exact I2.frame blk h1 (fun ho => h2 (.inr ho))
        · obtain ⟨h1, h2⟩ := hown hL h hblk
          rcases (I2.here blk o hS).1 with h3 | h3
          · exact h3
          · exact absurd h3 h2
    · show blkOf (β b) = some k → blkOf (β c) ≠ some k
      rcases hbox b d B hB with ⟨hL, ⟨d1, h⟩, _⟩ | ⟨hL, h, _⟩ <;> rcases hbox c d' B' hC with ⟨hL', ⟨d2, h'⟩, _⟩ | ⟨hL', h', _⟩
      · rw [β1 b hL, β1 c hL']
        exact I2.sep b c d1 B d2 B' hne h h' k
      · rw [β1 b hL, β2 c hL']
        intro h1 h2
        exact (hown hL' h' h2).2 ((I2.boxes b d1 B h).new k h1)
      · rw [β2 b hL, β1 c hL']
        intro h1 h2
        exact (hown hL h h1).2 ((I2.boxes c d2 B' h').new k h2)
      · rw [β2 b hL, β2 c hL']
        exact I.sep b c d B d' B' hne h h' k
  have st2 : Step M2 { w := M2.w, S := M2.S, β := β, bs := (rejoin L W s0 s2).boxes } (fun _ => False) := by
    refine ⟨Keeps.refl _ _, fun b d B hB _ => ?_⟩
    rw [hb2] at hB
    exact ⟨true, B, by rw [rejoin_boxes, hB], β1 b (hs2 b d B hB), Box.le_refl B⟩
  have st1 : Step M { w := M2.w, S := M2.S, β := β, bs := (rejoin L W s0 s2).boxes } (fun b => lk b (outB L s0) = none) := by
    refine ⟨hk, fun b d B hB hK => ?_⟩
    have hL : b ∉ L.boxes := fun hL => hK (by rw [lk_outB, if_pos (memN_iff.2 hL)])
    refine ⟨d, B, ?_, β2 b hL, Box.le_refl B⟩
    rw [rejoin_boxes]
    have hn : lk b s2.boxes = none := by
      cases h : lk b s2.boxes with
      | none => rfl
      | some y => exact absurd (hs2 b y.1 y.2 h) hL
    rw [hn]
    simp only
    rw [lk_outB, if_neg (fun h => hL (memN_iff.1 h)), ← hb]
    exact hB
  refine ⟨⟨{ w := M2.w, S := M2.S, β := β, bs := (rejoin L W s0 s2).boxes }, rfl, rfl, I3, fun t => ?_⟩, hf.size, hf.defers, hf.tmps, fun t ht => ?_, fun b B hB => ?_⟩
  · rw [rejoin_look H]
    split
    · exact (hr2 t).steps st2
    · split
      · rename_i hc
        simp only [Bool.and_eq_true, Bool.not_eq_true'] at hc
        obtain ⟨⟨h1, h2⟩, h3⟩ := hc
        rw [hf.tmps t (fun h => by rw [memN_iff.2 h] at h1; cases h1)]
        exact (hr t).step st1 (live_has h3)
      · simp [RelV]
  · rw [rejoin_look H]
    split
    · rename_i hkp
      rcases hf.look t ht with h | h
      · exact .inl h
      · rw [h, H1.look, if_pos hkp]
        exact .inr rfl
    · split
      · exact .inr rfl
      · exact .inl rfl
  · rcases hbox b false B hB with ⟨_, _, h⟩ | ⟨_, h, _⟩
    · cases h
    · rw [← hb]; exact h
end
end Go.Ev
