/- Code does what the evaluator says. -/
import Derived.Test.YtohodbfoeejbjaaEvRun8
import Derived.Scope
set_option linter.unusedVariables false
set_option linter.unusedSimpArgs false
namespace Go.Ev

/-- What is told of the loops is so. -/
def LamOK (C : Ctx) : Code → Prop
  | .seq a b => LamOK C a ∧ LamOK C b
  | .cond _ a b => LamOK C a ∧ LamOK C b
  | .loop c => LamOK C c
  | .scope c => LamOK C c
  | .block id c => LamOK C c ∧ ∀ body, c = .loop body → ∀ L, C.Λ id = some L → ∀ (s : St) (F : Ex × St → Prop), (L.sum s).holds F → ∃ n, (iter L (ev C body) n s).holds F
  | _ => True

section
variable {P : Program} {C : Ctx}

theorem mem_dsts {ops : List Oper} {t : Nat} : t ∈ dsts ops ↔ ∃ o ∈ ops, o.dst = some t := by
  unfold dsts
  rw [List.mem_filterMap]

theorem region_ok (TOK : TysOK P C.τ) (GC : CtrsOK P C.Γ) (hmix : P.follows .mixedOrders = true) (id : Nat) (ops : Array Oper) (draw : Bool) : BodyOK P C (.region id ops draw) := by
  intro R s a w F hs hsz hF
  have hd : ∀ o ∈ ops.toList, ∀ k, o.dst = some k → k < a.tmps.size := fun o ho k hk => hsz k (mem_dsts.2 ⟨o, ho, hk⟩)
  simp only [ev] at hF
  split at hF
  · rename_i hg
    simp only [Bool.or_eq_false_iff, List.any_eq_false] at hg
    obtain ⟨rfl, hg⟩ := hg
    have hF' := holds_bind.1 hF
    refine wp_region ?_
    rw [List.range_eq_range', show ops.size = ops.toList.length by simp]
    refine runOps_wp TOK GC ops.toList 0 s a w _ (fun i o hi => by rw [Nat.zero_add, ← Array.getElem?_toList]; exact hi) (fun o ho => ⟨?_, hd o ho⟩) hs hF' (fun s' a' w' f1 f2 f3 => ⟨.normal, s', rfl, f1, f2, f3.mono (fun t ht => mem_dsts.2 ht)⟩)
    have := hg o ho
    cases hgo : o.guard with
    | none => rfl
    | some x => simp [hgo] at this
  · have hF' := holds_bind.1 hF
    cases draw with
    | true => exact runDraw_wp TOK GC hmix hs hF' hd (fun s' a' w' f1 f2 f3 => ⟨.normal, s', rfl, f1, f2, f3.mono (fun t ht => mem_dsts.2 ht)⟩)
    | false =>
      simp only at hF'
      have other : (runBr C ops.toList ops.toList s).holds (fun s' => (Tree.leaf (Ex.normal, s')).holds F) → (Code.region id ops false).wp P (fun e a' w' => ∃ z s', e = Ex.to z ∧ F (z, s') ∧ IsSt R s' a' w' ∧ Apart (fun t => t ∈ writes (Code.region id ops false)) s a s' a') a w := fun h => by
        refine wp_region ?_
        rw [List.range_eq_range', show ops.size = ops.toList.length by simp]
        exact runBr_wp TOK GC ops.toList 0 s a w _ (fun i o hi => by rw [Nat.zero_add, ← Array.getElem?_toList]; exact hi) hd hs h (fun s' a' w' f1 f2 f3 => ⟨.normal, s', rfl, f1, f2, f3.mono (fun t ht => mem_dsts.2 ht)⟩)
      cases hr : runDraw C ops.toList false s with
      | stuck => rw [hr] at hF'; exact other hF'
      | leaf _ => exact runDraw_wp TOK GC hmix hs (by rw [hr] at hF' ⊢; exact hF') hd (fun s' a' w' f1 f2 f3 => ⟨.normal, s', rfl, f1, f2, f3.mono (fun t ht => mem_dsts.2 ht)⟩)
      | br _ _ _ => exact runDraw_wp TOK GC hmix hs (by rw [hr] at hF' ⊢; exact hF') hd (fun s' a' w' f1 f2 f3 => ⟨.normal, s', rfl, f1, f2, f3.mono (fun t ht => mem_dsts.2 ht)⟩)
      | need _ _ => exact runDraw_wp TOK GC hmix hs (by rw [hr] at hF' ⊢; exact hF') hd (fun s' a' w' f1 f2 f3 => ⟨.normal, s', rfl, f1, f2, f3.mono (fun t ht => mem_dsts.2 ht)⟩)

theorem seq_ok {x y : Code} (hx : BodyOK P C x) (hy : BodyOK P C y) : BodyOK P C (.seq x y) := by
  intro R s a w F hs hsz hF
  simp only [ev] at hF
  have hF' := holds_bind.1 hF
  simp only [writes, List.mem_append] at hsz ⊢
  refine wp_seq (wp_mono (hx R s a w _ hs (fun t ht => hsz t (.inl ht)) hF') ?_)
  rintro e a1 w1 ⟨z, s1, rfl, h1, h2, h3⟩
  have h3' := h3.mono (W' := fun t => t ∈ writes x ∨ t ∈ writes y) (fun t ht => .inl ht)
  cases z with
  | normal =>
    refine wp_mono (hy R s1 a1 w1 _ h2 (fun t ht => by rw [h3.size]; exact hsz t (.inr ht)) h1) ?_
    rintro e a2 w2 ⟨z, s2, rfl, k1, k2, k3⟩
    exact ⟨z, s2, rfl, k1, k2, h3'.trans (k3.mono (fun t ht => .inr ht))⟩
  | exit id => exact ⟨.exit id, s1, rfl, h1, h2, h3'⟩
  | ret => exact ⟨.ret, s1, rfl, h1, h2, h3'⟩

theorem cond_ok {c : Operand} {x y : Code} (hx : BodyOK P C x) (hy : BodyOK P C y) : BodyOK P C (.cond c x y) := by
  intro R s a w F hs hsz hF
  simp only [ev] at hF
  split at hF
  · rename_i b hc
    have hev : a.eval c = .bool b := by
      obtain ⟨M, _, _, _, hr⟩ := hs
      have := eval_rel hr c
      rw [hc] at this
      exact relBool this
    have hF' := holds_bind.1 hF
    simp only [Tree.holds] at hF'
    have fin : ∀ {W : Nat → Prop} {z : Ex} {s' : St} {a' : Act} {w' : World}, F (z, s'.remark s) → IsSt R s' a' w' → Apart W s.clean a s' a' → (∀ t, W t → t ∈ writes (.cond c x y)) →
        ∃ z' s'', z.to = Ex.to z' ∧ F (z', s'') ∧ IsSt R s'' a' w' ∧ Apart (fun t => t ∈ writes (.cond c x y)) s a s'' a' :=
      fun h1 h2 h3 h4 => ⟨_, _, rfl, h1, h2.remark s, h3.remark.mono h4⟩
    have go : ∀ (z : Code), BodyOK P C z → (∀ t ∈ writes z, t ∈ writes (.cond c x y)) → (ev C z s.clean).holds (fun p => F (p.1, p.2.remark s)) →
        z.wp P (fun e a' w' => ∃ z' s'', e = Ex.to z' ∧ F (z', s'') ∧ IsSt R s'' a' w' ∧ Apart (fun t => t ∈ writes (.cond c x y)) s a s'' a') a w := by
      intro z hz hw h
      refine wp_mono (hz R s.clean a w _ hs.clean (fun t ht => hsz t (hw t ht)) h) ?_
      rintro e a1 w1 ⟨z', s1, rfl, h1, h2, h3⟩
      exact fin h1 h2 h3 hw
    have wx : ∀ t ∈ writes x, t ∈ writes (.cond c x y) := fun t ht => by simp only [writes, List.mem_append]; exact .inl ht
    have wy : ∀ t ∈ writes y, t ∈ writes (.cond c x y) := fun t ht => by simp only [writes, List.mem_append]; exact .inr ht
    have plain : (b = true → (ev C x s.clean).holds (fun p => F (p.1, p.2.remark s))) → (b = false → (ev C y s.clean).holds (fun p => F (p.1, p.2.remark s))) →
        (Code.cond c x y).wp P (fun e a' w' => ∃ z' s'', e = Ex.to z' ∧ F (z', s'') ∧ IsSt R s'' a' w' ∧ Apart (fun t => t ∈ writes (.cond c x y)) s a s'' a') a w := by
      intro h1 h2
      refine wp_cond hev ?_
      cases b with
      | true => exact go x hx wx (h1 rfl)
      | false => exact go y hy wy (h2 rfl)
    cases hdec : C.dec with
    | true =>
      rw [hdec] at hF'
      obtain ⟨k1, k2⟩ := holds_pickT hF'
      exact plain k1 k2
    | false =>
      rw [hdec] at hF'
      simp only at hF'
      unfold fork at hF'
      split at hF'
      · rename_i ps sa qs sb e1 e2
        split at hF'
        · rename_i m hm
          obtain ⟨k1, k2⟩ := needs_holds hF'
          obtain ⟨k3, k4⟩ := needs_holds k2
          have mg : ∀ {a' w'} , IsSt R (if b then sa else sb) a' w' → Apart (fun t => t ∈ dedupN (writes x ++ writes y)) s.clean a (if b then sa else sb) a' →
              ∃ z' s'', Exit.normal = Ex.to z' ∧ F (z', s'') ∧ IsSt R s'' a' w' ∧ Apart (fun t => t ∈ writes (.cond c x y)) s a s'' a' := by
            intro a' w' h1 h2
            obtain ⟨h3, h4⟩ := merge_sound hm h1 h2
            exact fin (z := .normal) k4 h3 h4 (fun t ht => by simpa only [writes] using mem_dedup.1 ht)
          refine wp_cond hev ?_
          cases b with
          | true =>
            refine wp_mono (hx R s.clean a w _ hs.clean (fun t ht => hsz t (wx t ht)) (single_holds e1 (k1 rfl))) ?_
            rintro e a1 w1 ⟨z', s1, rfl, h1, h2, h3⟩
            simp only [Prod.mk.injEq] at h1
            obtain ⟨rfl, rfl⟩ := h1
            exact mg h2 (h3.mono (fun t ht => mem_dedup.2 (List.mem_append.2 (.inl ht))))
          | false =>
            refine wp_mono (hy R s.clean a w _ hs.clean (fun t ht => hsz t (wy t ht)) (single_holds e2 (k3 rfl))) ?_
            rintro e a1 w1 ⟨z', s1, rfl, h1, h2, h3⟩
            simp only [Prod.mk.injEq] at h1
            obtain ⟨rfl, rfl⟩ := h1
            exact mg h2 (h3.mono (fun t ht => mem_dedup.2 (List.mem_append.2 (.inr ht))))
        · exact plain hF'.1 hF'.2
      · exact plain hF'.1 hF'.2
  · exact hF.elim

theorem leaves_block {Q : Ex → Act → World → Prop} {id : Nat} {x : Ex} {a : Act} {w : World} {Q' : Exit → Act → World → Prop} (h : Q' (leaves id x).to a w) : Exit.inBlock id Q' x.to a w := by
  cases x with
  | normal => exact h
  | ret => exact h
  | exit j =>
    simp only [leaves] at h
    simp only [Ex.to, Exit.inBlock]
    split at h
    · rename_i hb
      rw [if_pos (Nat.eq_of_beq_eq_true hb)]
      exact h
    · rename_i hb
      rw [if_neg (fun hh => by rw [hh] at hb; simp at hb)]
      exact h

theorem block_ok {id : Nat} {c : Code} (hc : BodyOK P C c) (he : ∀ s, ev C (.block id c) s = (ev C c s).bind fun x => .leaf (leaves id x.1, x.2)) : BodyOK P C (.block id c) := by
  intro R s a w F hs hsz hF
  rw [he] at hF
  have hF' := holds_bind.1 hF
  refine wp_block (wp_mono (hc R s a w _ hs hsz hF') ?_)
  rintro e a1 w1 ⟨z, s1, rfl, h1, h2, h3⟩
  refine leaves_block (Q := fun _ _ _ => True) ?_
  exact ⟨_, s1, rfl, h1, h2, h3⟩

theorem loop_ok {id : Nat} {body : Code} (hB : BodyOK P C body) (hL : ∀ L, C.Λ id = some L → ∀ (s : St) (F : Ex × St → Prop), (L.sum s).holds F → ∃ n, (iter L (ev C body) n s).holds F) : BodyOK P C (.block id (.loop body)) := by
  intro R s a w F hs hsz hF
  simp only [ev] at hF
  split at hF
  · exact hF.elim
  rename_i L hLam
  split at hF
  · exact hF.elim
  rename_i s0 hp
  split at hF
  · exact hF.elim
  · exact hF.elim
  rename_i s1 hr hall
  have hF' := holds_bind.1 hF
  obtain ⟨n, hn⟩ := hL L hLam s1 _ hF'
  obtain ⟨hs0, hlk, hbx⟩ := promote_sound hp hs
  have hprom : ∀ t, ¬ t ∈ writes body → s0.look t = s.look t := by
    intro t ht
    refine hlk t (fun p hp' heq => ht ?_)
    rw [List.all_eq_true] at hall
    exact heq ▸ memN_iff.1 (hall p hp')
  have H1 := restrict_spec hr
  obtain ⟨M, rfl, hb, I, hrel⟩ := hs0
  refine wp_block (loop_wp (L := L) (R := subRef M L) hB (enter I hb hrel H1) hsz hn ?_)
  intro x sx s2 a' w' hx h1 h2 H hf
  refine leaves_block (Q := fun _ _ _ => True) ?_
  obtain ⟨q1, q2⟩ := leave I hb hrel H1 h2 H hf
  refine ⟨_, _, rfl, h1, q1, q2.size, q2.defers, q2.tmps, fun t ht => ?_, fun b B hB => hbx b B (q2.boxes b B hB)⟩
  rcases q2.look t ht with h | h
  · exact .inl h
  · exact .inr (h.trans (hprom t ht))

/-- Code does what the evaluator says. -/
theorem ev_ok (TOK : TysOK P C.τ) (GC : CtrsOK P C.Γ) (hmix : P.follows .mixedOrders = true) (c : Code) : LamOK C c → BodyOK P C c ∧ ∀ body, c = .loop body → BodyOK P C body := by
  have stuck : ∀ c : Code, (∀ s, ev C c s = .stuck) → BodyOK P C c := fun c h R s a w F _ _ hF => by rw [h] at hF; exact hF.elim
  induction c with
  | skip => exact fun _ => ⟨fun R s a w F hs _ hF => wp_skip ⟨.normal, s, rfl, hF, hs, Apart.refl _ _ _⟩, nofun⟩
  | region id ops draw => exact fun _ => ⟨region_ok TOK GC hmix id ops draw, nofun⟩
  | seq x y hx hy => exact fun h => ⟨seq_ok (hx h.1).1 (hy h.2).1, nofun⟩
  | cond c x y hx hy => exact fun h => ⟨cond_ok (hx h.1).1 (hy h.2).1, nofun⟩
  | block id c hc =>
    refine fun h => ⟨?_, nofun⟩
    cases c with
    | loop body => exact loop_ok ((hc h.1).2 body rfl) (h.2 body rfl)
    | _ => exact block_ok (hc h.1).1 (fun s => rfl)
  | loop body hb => exact fun h => ⟨stuck _ (fun s => rfl), fun b hh => by cases hh; exact (hb h).1⟩
  | exit id => exact fun _ => ⟨fun R s a w F hs _ hF => wp_exit ⟨.exit id, s, rfl, hF, hs, Apart.refl _ _ _⟩, nofun⟩
  | ret => exact fun _ => ⟨fun R s a w F hs _ hF => wp_ret ⟨.ret, s, rfl, hF, hs, Apart.refl _ _ _⟩, nofun⟩
  | rangeFunc f ps x y hx hy => exact fun _ => ⟨stuck _ (fun s => rfl), nofun⟩
  | scope c hc =>
    refine fun h => ⟨fun R s a w F hs hsz hF => wp_scope_straight (wp_mono ((hc h).1 R s a w F hs hsz hF) ?_), nofun⟩
    rintro e a1 w1 ⟨z, s1, rfl, h1, h2, h3⟩
    cases z <;> exact ⟨_, s1, rfl, h1, h2, h3⟩
  | label l => exact fun _ => ⟨fun R s a w F hs _ hF => wp_label ⟨.normal, s, rfl, hF, hs, Apart.refl _ _ _⟩, nofun⟩
  | goto l => exact fun _ => ⟨stuck _ (fun s => rfl), nofun⟩
  | refuse w => exact fun _ => ⟨stuck _ (fun s => rfl), nofun⟩
end
end Go.Ev
