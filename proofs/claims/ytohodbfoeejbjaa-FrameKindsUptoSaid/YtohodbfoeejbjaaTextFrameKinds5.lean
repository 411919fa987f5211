/- Code does what the evaluator says. -/
import Derived.Scope
import Derived.Test.YtohodbfoeejbjaaProg
import Derived.KernelRfl
import Derived.Test.YtohodbfoeejbjaaTextFrameKinds4

set_option linter.unusedVariables false
set_option linter.unusedSimpArgs false
namespace Go.Ev

/-- What is told of the loops is so. -/
def LamOK (C : Ctx) : Code → Prop
  | .seq a b => LamOK C a ∧ LamOK C b
  | .cond _ a b => LamOK C a ∧ LamOK C b
  | .loop c => LamOK C c
  | .scope c => LamOK C c
  | .block id c => LamOK C c ∧ ∀ body, c = .loop body → ∀ L, C.Λ id = some L → ∀ (s : St) (F : Ex × St → Prop), (L.sum s).holds F → ∃ n, (iter L (ev C body) n s).holds F
  | _ => True

section
variable {P : Program} {C : Ctx}

theorem mem_dsts {ops : List Oper} {t : Nat} : t ∈ dsts ops ↔ ∃ o ∈ ops, o.dst = some t := by
  unfold dsts
  rw [List.mem_filterMap]

theorem region_ok (TOK : TysOK P C.τ) (GC : CtrsOK P C.Γ) (DK : DsOK P C) (hmix : P.follows .mixedOrders = true) (id : Nat) (ops : Array Oper) (draw : Bool) : BodyOK P C (.region id ops draw) := by
  intro R s a w F hs hsz hF
  have hd : ∀ o ∈ ops.toList, ∀ k, o.dst = some k → k < a.tmps.size := fun o ho k hk => hsz k (mem_dsts.2 ⟨o, ho, hk⟩)
  simp only [ev] at hF
  split at hF
  · cases draw with
    | true => exact runDrawD_wp TOK GC DK hmix hs hF hd (fun z s' a' w' f1 f2 f3 => ⟨z, s', rfl, f1, f2, f3.mono (fun t ht => mem_dsts.2 ht)⟩)
    | false =>
      simp only [regD] at hF
      split at hF
      · exact hF.elim
      rename_i hg
      rw [List.any_eq_false] at hg
      refine wp_region ?_
      rw [List.range_eq_range', show ops.size = ops.toList.length by simp]
      refine runOpsD_wp TOK GC DK ops.toList 0 s a w _ (fun i o hi => by rw [Nat.zero_add, ← Array.getElem?_toList]; exact hi) (fun o ho => ⟨?_, hd o ho⟩) hs hF (fun z s' a' w' f1 f2 f3 => ⟨z, s', rfl, f1, f2, f3.mono (fun t ht => mem_dsts.2 ht)⟩)
      have := hg o ho
      cases hgo : o.guard with
      | none => rfl
      | some x => simp [hgo] at this
  split at hF
  · rename_i hg
    simp only [Bool.or_eq_false_iff, List.any_eq_false] at hg
    obtain ⟨rfl, hg⟩ := hg
    have hF' := holds_bind.1 hF
    refine wp_region ?_
    rw [List.range_eq_range', show ops.size = ops.toList.length by simp]
    refine runOps_wp TOK GC ops.toList 0 s a w _ (fun i o hi => by rw [Nat.zero_add, ← Array.getElem?_toList]; exact hi) (fun o ho => ⟨?_, hd o ho⟩) hs hF' (fun s' a' w' f1 f2 f3 => ⟨.normal, s', rfl, f1, f2, f3.mono (fun t ht => mem_dsts.2 ht)⟩)
    have := hg o ho
    cases hgo : o.guard with
    | none => rfl
    | some x => simp [hgo] at this
  · have hF' := holds_bind.1 hF
    cases draw with
    | true => exact runDraw_wp TOK GC hmix hs hF' hd (fun s' a' w' f1 f2 f3 => ⟨.normal, s', rfl, f1, f2, f3.mono (fun t ht => mem_dsts.2 ht)⟩)
    | false =>
      simp only at hF'
      have other : (runBr C ops.toList ops.toList s).holds (fun s' => (Tree.leaf (Ex.normal, s')).holds F) → (Code.region id ops false).wp P (fun e a' w' => ∃ z s', e = Ex.to z ∧ F (z, s') ∧ IsSt R s' a' w' ∧ Apart (fun t => t ∈ writes (Code.region id ops false)) s a s' a') a w := fun h => by
        refine wp_region ?_
        rw [List.range_eq_range', show ops.size = ops.toList.length by simp]
        exact runBr_wp TOK GC ops.toList 0 s a w _ (fun i o hi => by rw [Nat.zero_add, ← Array.getElem?_toList]; exact hi) hd hs h (fun s' a' w' f1 f2 f3 => ⟨.normal, s', rfl, f1, f2, f3.mono (fun t ht => mem_dsts.2 ht)⟩)
      cases hr : runDraw C ops.toList false s with
      | stuck => rw [hr] at hF'; exact other hF'
      | leaf _ => exact runDraw_wp TOK GC hmix hs (by rw [hr] at hF' ⊢; exact hF') hd (fun s' a' w' f1 f2 f3 => ⟨.normal, s', rfl, f1, f2, f3.mono (fun t ht => mem_dsts.2 ht)⟩)
      | br _ _ _ => exact runDraw_wp TOK GC hmix hs (by rw [hr] at hF' ⊢; exact hF') hd (fun s' a' w' f1 f2 f3 => ⟨.normal, s', rfl, f1, f2, f3.mono (fun t ht => mem_dsts.2 ht)⟩)
      | need _ _ => exact runDraw_wp TOK GC hmix hs (by rw [hr] at hF' ⊢; exact hF') hd (fun s' a' w' f1 f2 f3 => ⟨.normal, s', rfl, f1, f2, f3.mono (fun t ht => mem_dsts.2 ht)⟩)

theorem seq_ok {x y : Code} (hx : BodyOK P C x) (hy : BodyOK P C y) : BodyOK P C (.seq x y) := by
  intro R s a w F hs hsz hF
  simp only [ev] at hF
  have hF' := holds_bind.1 hF
  simp only [writes, List.mem_append] at hsz ⊢
  refine wp_seq (wp_mono (hx R s a w _ hs (fun t ht => hsz t (.inl ht)) hF') ?_)
  rintro e a1 w1 ⟨z, s1, rfl, h1, h2, h3⟩
  have h3' := h3.mono (W' := fun t => t ∈ writes x ∨ t ∈ writes y) (fun t ht => .inl ht)
  cases z with
  | normal =>
    refine wp_mono (hy R s1 a1 w1 _ h2 (fun t ht => by rw [h3.size]; exact hsz t (.inr ht)) h1) ?_
    rintro e a2 w2 ⟨z, s2, rfl, k1, k2, k3⟩
    exact ⟨z, s2, rfl, k1, k2, h3'.trans (k3.mono (fun t ht => .inr ht))⟩
  | exit id => exact ⟨.exit id, s1, rfl, h1, h2, h3'⟩
  | ret => exact ⟨.ret, s1, rfl, h1, h2, h3'⟩
  | die v => exact ⟨.die v, s1, rfl, h1, h2, h3'⟩

theorem cond_ok {c : Operand} {x y : Code} (hx : BodyOK P C x) (hy : BodyOK P C y) : BodyOK P C (.cond c x y) := by
  intro R s a w F hs hsz hF
  simp only [ev] at hF
  split at hF
  · rename_i b hc
    have hev : a.eval c = .bool b := by
      obtain ⟨M, _, _, I, hr⟩ := hs
      have := eval_rel (R.tab.keeps I.old) hr c
      rw [hc] at this
      exact relBool this
    have hF' := holds_bind.1 hF
    simp only [Tree.holds] at hF'
    have fin : ∀ {W : Nat → Prop} {z : Ex} {s' : St} {a' : Act} {w' : World}, F (z, s'.remark s) → IsSt R s' a' w' → Apart W s.clean a s' a' → (∀ t, W t → t ∈ writes (.cond c x y)) →
        ∃ z' s'', z.to = Ex.to z' ∧ F (z', s'') ∧ IsSt R s'' a' w' ∧ Apart (fun t => t ∈ writes (.cond c x y)) s a s'' a' :=
      fun h1 h2 h3 h4 => ⟨_, _, rfl, h1, h2.remark s, h3.remark.mono h4⟩
    have go : ∀ (z : Code), BodyOK P C z → (∀ t ∈ writes z, t ∈ writes (.cond c x y)) → (ev C z s.clean).holds (fun p => F (p.1, p.2.remark s)) →
        z.wp P (fun e a' w' => ∃ z' s'', e = Ex.to z' ∧ F (z', s'') ∧ IsSt R s'' a' w' ∧ Apart (fun t => t ∈ writes (.cond c x y)) s a s'' a') a w := by
      intro z hz hw h
      refine wp_mono (hz R s.clean a w _ hs.clean (fun t ht => hsz t (hw t ht)) h) ?_
      rintro e a1 w1 ⟨z', s1, rfl, h1, h2, h3⟩
      exact fin h1 h2 h3 hw
    have wx : ∀ t ∈ writes x, t ∈ writes (.cond c x y) := fun t ht => by simp only [writes, List.mem_append]; exact .inl ht
    have wy : ∀ t ∈ writes y, t ∈ writes (.cond c x y) := fun t ht => by simp only [writes, List.mem_append]; exact .inr ht
    have plain : (b = true → (ev C x s.clean).holds (fun p => F (p.1, p.2.remark s))) → (b = false → (ev C y s.clean).holds (fun p => F (p.1, p.2.remark s))) →
        (Code.cond c x y).wp P (fun e a' w' => ∃ z' s'', e = Ex.to z' ∧ F (z', s'') ∧ IsSt R s'' a' w' ∧ Apart (fun t => t ∈ writes (.cond c x y)) s a s'' a') a w := by
      intro h1 h2
      refine wp_cond hev ?_
      cases b with
      | true => exact go x hx wx (h1 rfl)
      | false => exact go y hy wy (h2 rfl)
    cases hdec : C.dec with
    | true =>
      rw [hdec] at hF'
      obtain ⟨k1, k2⟩ := holds_pickT hF'
      exact plain k1 k2
    | false =>
      rw [hdec] at hF'
      simp only at hF'
      unfold fork at hF'
      split at hF'
      · rename_i ps sa qs sb e1 e2
        split at hF'
        · rename_i m hm
          obtain ⟨k1, k2⟩ := needs_holds hF'
          obtain ⟨k3, k4⟩ := needs_holds k2
          have mg : ∀ {a' w'} , IsSt R (if b then sa else sb) a' w' → Apart (fun t => t ∈ dedupN (writes x ++ writes y)) s.clean a (if b then sa else sb) a' →
              ∃ z' s'', Exit.normal = Ex.to z' ∧ F (z', s'') ∧ IsSt R s'' a' w' ∧ Apart (fun t => t ∈ writes (.cond c x y)) s a s'' a' := by
            intro a' w' h1 h2
            obtain ⟨h3, h4⟩ := merge_sound hm h1 h2
            exact fin (z := .normal) k4 h3 h4 (fun t ht => by simpa only [writes] using mem_dedup.1 ht)
          refine wp_cond hev ?_
          cases b with
          | true =>
            refine wp_mono (hx R s.clean a w _ hs.clean (fun t ht => hsz t (wx t ht)) (single_holds e1 (k1 rfl))) ?_
            rintro e a1 w1 ⟨z', s1, rfl, h1, h2, h3⟩
            simp only [Prod.mk.injEq] at h1
            obtain ⟨rfl, rfl⟩ := h1
            exact mg h2 (h3.mono (fun t ht => mem_dedup.2 (List.mem_append.2 (.inl ht))))
          | false =>
            refine wp_mono (hy R s.clean a w _ hs.clean (fun t ht => hsz t (wy t ht)) (single_holds e2 (k3 rfl))) ?_
            rintro e a1 w1 ⟨z', s1, rfl, h1, h2, h3⟩
            simp only [Prod.mk.injEq] at h1
            obtain ⟨rfl, rfl⟩ := h1
            exact mg h2 (h3.mono (fun t ht => mem_dedup.2 (List.mem_append.2 (.inr ht))))
        · exact plain hF'.1 hF'.2
      · exact plain hF'.1 hF'.2
  · exact hF.elim

theorem leaves_block {Q : Ex → Act → World → Prop} {id : Nat} {x : Ex} {a : Act} {w : World} {Q' : Exit → Act → World → Prop} (h : Q' (leaves id x).to a w) : Exit.inBlock id Q' x.to a w := by
  cases x with
  | normal => exact h
  | ret => exact h
  | die v => exact h
  | exit j =>
    simp only [leaves] at h
    simp only [Ex.to, Exit.inBlock]
    split at h
    · rename_i hb
      rw [if_pos (Nat.eq_of_beq_eq_true hb)]
      exact h
    · rename_i hb
      rw [if_neg (fun hh => by rw [hh] at hb; simp at hb)]
      exact h

theorem block_ok {id : Nat} {c : Code} (hc : BodyOK P C c) (he : ∀ s, ev C (.block id c) s = (ev C c s).bind fun x => .leaf (leaves id x.1, x.2)) : BodyOK P C (.block id c) := by
  intro R s a w F hs hsz hF
  rw [he] at hF
  have hF' := holds_bind.1 hF
  refine wp_block (wp_mono (hc R s a w _ hs hsz hF') ?_)
  rintro e a1 w1 ⟨z, s1, rfl, h1, h2, h3⟩
  refine leaves_block (Q := fun _ _ _ => True) ?_
  exact ⟨_, s1, rfl, h1, h2, h3⟩

theorem loop_ok {id : Nat} {body : Code} (hB : BodyOK P C body) (hL : ∀ L, C.Λ id = some L → ∀ (s : St) (F : Ex × St → Prop), (L.sum s).holds F → ∃ n, (iter L (ev C body) n s).holds F) : BodyOK P C (.block id (.loop body)) := by
  intro R s a w F hs hsz hF
  simp only [ev] at hF
  split at hF
  · exact hF.elim
  rename_i L hLam
  split at hF
  · exact hF.elim
  rename_i s0 hp
  split at hF
  · exact hF.elim
  · exact hF.elim
  rename_i s1 hr hall
  have hF' := holds_bind.1 hF
  obtain ⟨n, hn⟩ := hL L hLam s1 _ hF'
  obtain ⟨hs0, hlk, hbx⟩ := promote_sound hp hs
  have hprom : ∀ t, ¬ t ∈ writes body → s0.look t = s.look t := by
    intro t ht
    refine hlk t (fun p hp' heq => ht ?_)
    rw [List.all_eq_true] at hall
    exact heq ▸ memN_iff.1 (hall p hp')
  have H1 := restrict_spec hr
  obtain ⟨M, rfl, hb, I, hrel⟩ := hs0
  refine wp_block (loop_wp (L := L) (R := subRef M L (R.tab.keeps I.old)) hB (enter I hb hrel H1) hsz hn ?_)
  intro x sx s2 a' w' hx h1 h2 H hf
  refine leaves_block (Q := fun _ _ _ => True) ?_
  obtain ⟨q1, q2⟩ := leave I hb hrel H1 h2 H hf
  refine ⟨_, _, rfl, h1, q1, q2.size, q2.defers, q2.tmps, fun t ht => ?_, fun b B hB => hbx b B (q2.boxes b B hB)⟩
  rcases q2.look t ht with h | h
  · exact .inl h
  · exact .inr (h.trans (hprom t ht))

/-- Code does what the evaluator says. -/
theorem ev_ok (TOK : TysOK P C.τ) (GC : CtrsOK P C.Γ) (DK : DsOK P C) (hmix : P.follows .mixedOrders = true) (c : Code) : LamOK C c → BodyOK P C c ∧ ∀ body, c = .loop body → BodyOK P C body := by
  have stuck : ∀ c : Code, (∀ s, ev C c s = .stuck) → BodyOK P C c := fun c h R s a w F _ _ hF => by rw [h] at hF; exact hF.elim
  induction c with
  | skip => exact fun _ => ⟨fun R s a w F hs _ hF => wp_skip ⟨.normal, s, rfl, hF, hs, Apart.refl _ _ _⟩, nofun⟩
  | region id ops draw => exact fun _ => ⟨region_ok TOK GC DK hmix id ops draw, nofun⟩
  | seq x y hx hy => exact fun h => ⟨seq_ok (hx h.1).1 (hy h.2).1, nofun⟩
  | cond c x y hx hy => exact fun h => ⟨cond_ok (hx h.1).1 (hy h.2).1, nofun⟩
  | block id c hc =>
    refine fun h => ⟨?_, nofun⟩
    cases c with
    | loop body => exact loop_ok ((hc h.1).2 body rfl) (h.2 body rfl)
    | _ => exact block_ok (hc h.1).1 (fun s => rfl)
  | loop body hb => exact fun h => ⟨stuck _ (fun s => rfl), fun b hh => by cases hh; exact (hb h).1⟩
  | exit id => exact fun _ => ⟨fun R s a w F hs _ hF => wp_exit ⟨.exit id, s, rfl, hF, hs, Apart.refl _ _ _⟩, nofun⟩
  | ret => exact fun _ => ⟨fun R s a w F hs _ hF => wp_ret ⟨.ret, s, rfl, hF, hs, Apart.refl _ _ _⟩, nofun⟩
  | rangeFunc f ps x y hx hy => exact fun _ => ⟨stuck _ (fun s => rfl), nofun⟩
  | scope c hc =>
    refine fun h => ⟨fun R s a w F hs hsz hF => wp_scope_straight (wp_mono ((hc h).1 R s a w F hs hsz hF) ?_), nofun⟩
    rintro e a1 w1 ⟨z, s1, rfl, h1, h2, h3⟩
    cases z <;> exact ⟨_, s1, rfl, h1, h2, h3⟩
  | label l => exact fun _ => ⟨fun R s a w F hs _ hF => wp_label ⟨.normal, s, rfl, hF, hs, Apart.refl _ _ _⟩, nofun⟩
  | goto l => exact fun _ => ⟨stuck _ (fun s => rfl), nofun⟩
  | refuse w => exact fun _ => ⟨stuck _ (fun s => rfl), nofun⟩
end
end Go.Ev
/- A function keeps the contract that the evaluator reckons. -/
set_option linter.unusedVariables false
set_option linter.unusedSimpArgs false
namespace Go.Ev
section
variable {P : Program} {C : Ctx}

theorem lk_number {α : Type} (t : Nat) : ∀ (l : List α) (n : Nat), lk t (number n l) = if n ≤ t then l[t - n]? else none
  | [], n => by simp [number, lk]
  | v :: l, n => by
    simp only [number, lk]
    cases hb : Nat.beq n t with
    | true =>
      have := Nat.eq_of_beq_eq_true hb
      subst this
      simp
    | false =>
      have hne : n ≠ t := fun h => by rw [h] at hb; simp at hb
      rw [lk_number t l (n + 1)]
      by_cases h : n ≤ t
      · rw [if_pos (by omega), if_pos h, show t - n = (t - (n + 1)) + 1 by omega]
        simp
      · rw [if_neg (by omega), if_neg h]

theorem loadAddr {M : Mem} {R : Ref} {τ : Tys} (TOK : TysOK P τ) (I : InvM R M) {t : TypeId} {i : TInfo} (hi : τ t = some i) {va : AV} {u : Value} (hr : RelV M va u) {e : Eff} (h : loadEff i.g (argOf M.bs va) = some e) :
    ∃ v, (do loadVar t (← asAddr u) : Sem Value).run P M.w = .ok v M.w ∧ RelV M e.av v ∧ ∃ y, e.av = .val i.g y := by
  obtain ⟨v, h1, h2, h3, h4⟩ := loadEff_sound TOK I hi (ArgR.of hr) h
  refine ⟨v, ?_, h3, h4⟩
  have hu : ∃ blk off, u = .pointer (some ⟨blk, off, none⟩) := by
    unfold loadEff argOf at h
    cases va with
    | ptr b g p =>
      simp only [RelV] at hr
      obtain ⟨blk, d, B, _, _, _, hu⟩ := hr
      exact ⟨_, _, hu⟩
    | ref g y =>
      simp only [RelV] at hr
      obtain ⟨blk, off, cs, _, _, hu⟩ := hr
      exact ⟨_, _, hu⟩
    | undef => simp at h
    | cst _ => simp at h
    | val _ _ => simp at h
    | tip _ => simp at h
    | tup _ => simp at h
    | clo _ _ => simp at h
    | nxt _ _ _ => simp at h
    | win _ _ => simp at h
  obtain ⟨blk, off, rfl⟩ := hu
  simpa [Instr.loadAt, Instr.sureAddr, asAddr] using h1

def resF (tmps : Array Value) : ResultVar → Sem Value
  | .tmp t => pure (tmps.getD t undef)
  | .cell a t => do loadVar t (← asAddr (tmps.getD a undef))

theorem results_eq (fn : Func) (tmps : Array Value) : results fn tmps = (do let vs ← fn.results.mapM (resF tmps); pure (if h : vs.size = 1 then vs[0] else .tuple vs)) := rfl

theorem resArgs_sound {M : Mem} {R : Ref} (TOK : TysOK P C.τ) (I : InvM R M) {s : St} (hb : M.bs = s.boxes) {tmps : Array Value} (hr : ∀ t, RelV M (s.look t) (tmps.getD t undef)) : ∀ {l : List ResultVar} {aas : List Arg}, resArgs C s l = some aas →
    ∃ us, (l.mapM (resF tmps)).run P M.w = .ok us M.w ∧ ArgsR M aas us
  | [], aas, h => by
    simp only [resArgs, Option.some.injEq] at h
    subst h
    exact ⟨[], by simp, trivial⟩
  | r :: l, aas, h => by
    simp only [resArgs] at h
    split at h
    · rename_i a aas' h1 h2
      simp only [Option.some.injEq] at h
      subst h
      obtain ⟨us, q1, q2⟩ := resArgs_sound TOK I hb hr h2
      have one : ∃ u, (resF tmps r).run P M.w = .ok u M.w ∧ ArgR M a u := by
        cases r with
        | tmp t =>
          simp only [resArg, Option.some.injEq] at h1
          subst h1
          refine ⟨tmps.getD t undef, rfl, ?_⟩
          have : s.arg (.tmp t) = argOf M.bs (s.look t) := by rw [hb]; rfl
          rw [this]
          exact ArgR.of (hr t)
        | cell ad t =>
          simp only [resArg] at h1
          split at h1
          · rename_i i hi
            split at h1
            · rename_i e he
              simp only [Option.some.injEq] at h1
              subst h1
              have : s.arg (.tmp ad) = argOf M.bs (s.look ad) := by rw [hb]; rfl
              rw [this] at he
              obtain ⟨v, k1, k2, y, k3⟩ := loadAddr TOK I hi (hr ad) he
              exact ⟨v, k1, k2, fun b B hb' _ => by rw [k3] at hb'; simp [boxOf] at hb'⟩
            · cases h1
          · cases h1
      obtain ⟨u, k1, k2⟩ := one
      exact ⟨u :: us, by rw [List.mapM_cons]; simp only [Sem.run_bind, k1, Result.andThen_ok, q1]; rfl, k2, q2⟩
    · cases h

theorem results_run {fn : Func} {tmps : Array Value} {w : World} {us : List Value} (h : (fn.results.toList.mapM (resF tmps)).run P w = .ok us w) :
    (results fn tmps).run P w = .ok (match us with | [u] => u | _ => .tuple us.toArray) w := by
  rw [results_eq, Array.mapM_eq_mapM_toList]
  have : (List.toArray <$> fn.results.toList.mapM (resF tmps) : Sem (Array Value)).run P w = .ok us.toArray w := by
    simp [h]
  simp only [Sem.run_bind]
  rw [this]
  simp only [Result.andThen_ok]
  rcases us with _ | ⟨u, _ | ⟨v, us⟩⟩ <;> simp

/-- A function keeps its contract. -/
theorem ctr_of_ev (TOK : TysOK P C.τ) (GC : CtrsOK P C.Γ) (DK : DsOK P C) (hmix : P.follows .mixedOrders = true) {f : Nat} {fn : Func} {body : Code} {c : Ctr} (hf : P.funcs[f]? = some fn) (hname : (fn.name == "runtime.NumGoroutine") = false) (hbody : fn.body = some body)
    (hlam : LamOK C body) (h : ∀ x : dens c.args, wtD c.args x → (∀ p, c.pre = some p → p x) → (evFn C fn (resL c.args x) c.res).holds (fun y => y = c.fn x)) : CtrOK P f c := by
  refine ⟨⟨fn, hf, by rw [hbody]; rfl, hname⟩, fun w S us x hS hT henc hpre => ?_⟩
  have hh := h x henc.wt hpre
  simp only [evFn, hbody] at hh
  split at hh
  · exact hh.elim
  rename_i hsz
  have hh' := holds_bind.1 hh
  let R : Ref := ⟨w, fun _ => False, S, hT⟩
  let M : Mem := ⟨w, S, fun _ => undef, []⟩
  have I : InvM R M := ⟨rfl, rfl, rfl, Nat.le_refl _, fun _ _ _ => rfl, Keeps.refl _ _, fun b o hs => ⟨.inl hs, hS b o hs⟩, fun b d B hb => by simp [M, lk] at hb, fun b c d B d' B' _ hb => by simp [M, lk] at hb⟩
  have hrl := resL_rel (M := M) (gs := c.args) (x := x) (us := us) henc
  let a : Act := { tmps := us.toArray ++ Array.replicate (fn.ntmps - us.toArray.size) undef, defers := [] }
  have hst : IsSt R { tmps := number 0 (resL c.args x), boxes := [] } a w := by
    refine ⟨M, rfl, rfl, I, fun t => ?_⟩
    show RelV M ((lk t (number 0 (resL c.args x))).getD .undef) _
    rw [lk_number]
    simp only [Nat.zero_le, if_true, Nat.sub_zero]
    cases hv : (resL c.args x)[t]? with
    | none => simp [RelV]
    | some v =>
      obtain ⟨u, h1, h2⟩ := hrl.get t hv
      have hlt := (List.getElem?_eq_some_iff.1 h1).1
      have : a.tmps.getD t undef = u := by
        simp only [a, Array.getD_eq_getD_getElem?]
        rw [Array.getElem?_append_left (by simpa using hlt)]
        simp [h1]
      rw [this]
      simpa using h2
  have hall : ∀ t ∈ writes body, t < a.tmps.size := by
    intro t ht
    rw [List.all_eq_true] at hsz
    have := hsz t ht
    rw [Nat.blt_eq] at this
    simp [a]
    omega
  refine calls_of_wp hf hbody (wp_mono ((ev_ok TOK GC DK hmix body hlam).1 R _ a w _ hst hall hh') ?_)
  rintro e a' w' ⟨z, s', rfl, h1, ⟨M', rfl, hb', I', hr'⟩, hap⟩
  have fin : (evRes C fn c.res (.normal, s')).holds (fun y => y = c.fn x) →
      a'.defers = [] ∧ ∃ v, (results fn a'.tmps).run P M'.w = .ok v M'.w ∧ ∃ v', Ending.returned v = Ending.returned v' ∧ Grows w M'.w ∧ ∃ N : Stab, (∀ b o, N b o → w.heap.size ≤ b ∧ b < M'.w.heap.size) ∧ RelRes M'.w (fun b o => S b o ∨ N b o) c.res (c.fn x) v' := by
    intro hF
    simp only [evRes] at hF
    split at hF
    · exact hF.elim
    rename_i aas has
    split at hF
    · exact hF.elim
    rename_i y ws htk
    simp only [Tree.holds] at hF
    subst hF
    obtain ⟨us', q1, q2⟩ := resArgs_sound TOK I' hb' hr' has
    obtain ⟨_, S', fz, henc'⟩ := takes_sound I' q2 htk
    refine ⟨hap.defers, _, results_run q1, _, rfl, ⟨I'.os, I'.tape, I'.output, I'.size, fun k hk => I'.frame k hk id⟩, fun b o => S' b o ∧ w.heap.size ≤ b, fun b o hN => ⟨hN.2, (fz.inv.here b o hN.1).2⟩, us', ?_, by rcases us' with _ | ⟨u, _ | ⟨v, us⟩⟩ <;> rfl⟩
    refine henc'.keeps (fun b o hs => ⟨?_, rfl⟩)
    rcases (fz.inv.here b o hs).1 with h3 | h3 | h3
    · exact .inl h3
    · exact .inr ⟨hs, h3⟩
    · exact h3.elim
  cases z with
  | exit id => exact h1.elim
  | die v => exact h1.elim
  | normal => exact fin h1
  | ret => exact fin h1
/-- A function that may panic keeps its contract. -/
theorem dctr_of_ev (TOK : TysOK P C.τ) (GC : CtrsOK P C.Γ) (DK : DsOK P C) (hmix : P.follows .mixedOrders = true) {f : Nat} {fn : Func} {body : Code} {d : DCtr} (hf : P.funcs[f]? = some fn) (hname : (fn.name == "runtime.NumGoroutine") = false) (hbody : fn.body = some body)
    (hlam : LamOK C body) (h : ∀ x : dens d.args, wtD d.args x → (evFnD C fn (resL d.args x) d.res).holds (fun y => y = bif d.die x then .inl (d.val x) else .inr (d.fn x))) : DCtrOK P f d := by
  refine ⟨⟨fn, hf, by rw [hbody]; rfl, hname⟩, fun w S us x hS hT henc => ?_⟩
  have hh := h x henc.wt
  simp only [evFnD, hbody] at hh
  split at hh
  · exact hh.elim
  rename_i hsz
  have hh' := holds_bind.1 hh
  let R : Ref := ⟨w, fun _ => False, S, hT⟩
  let M : Mem := ⟨w, S, fun _ => undef, []⟩
  have I : InvM R M := ⟨rfl, rfl, rfl, Nat.le_refl _, fun _ _ _ => rfl, Keeps.refl _ _, fun b o hs => ⟨.inl hs, hS b o hs⟩, fun b d B hb => by simp [M, lk] at hb, fun b c d B d' B' _ hb => by simp [M, lk] at hb⟩
  have hrl := resL_rel (M := M) (gs := d.args) (x := x) (us := us) henc
  let a : Act := { tmps := us.toArray ++ Array.replicate (fn.ntmps - us.toArray.size) undef, defers := [] }
  have hst : IsSt R { tmps := number 0 (resL d.args x), boxes := [] } a w := by
    refine ⟨M, rfl, rfl, I, fun t => ?_⟩
    show RelV M ((lk t (number 0 (resL d.args x))).getD .undef) _
    rw [lk_number]
    simp only [Nat.zero_le, if_true, Nat.sub_zero]
    cases hv : (resL d.args x)[t]? with
    | none => simp [RelV]
    | some v =>
      obtain ⟨u, h1, h2⟩ := hrl.get t hv
      have hlt := (List.getElem?_eq_some_iff.1 h1).1
      have : a.tmps.getD t undef = u := by
        simp only [a, Array.getD_eq_getD_getElem?]
        rw [Array.getElem?_append_left (by simpa using hlt)]
        simp [h1]
      rw [this]
      simpa using h2
  have hall : ∀ t ∈ writes body, t < a.tmps.size := by
    intro t ht
    rw [List.all_eq_true] at hsz
    have := hsz t ht
    rw [Nat.blt_eq] at this
    simp [a]
    omega
  refine calls_of_wp hf hbody (wp_mono ((ev_ok TOK GC DK hmix body hlam).1 R _ a w _ hst hall hh') ?_)
  rintro e a' w' ⟨z, s', rfl, h1, ⟨M', rfl, hb', I', hr'⟩, hap⟩
  have hgr : Grows w M'.w := ⟨I'.os, I'.tape, I'.output, I'.size, fun k hk => I'.frame k hk id⟩
  have fin : ((evRes C fn d.res (.normal, s')).bind fun x => Tree.leaf (Sum.inr x)).holds (fun y => y = bif d.die x then Sum.inl (d.val x) else Sum.inr (d.fn x)) →
      a'.defers = [] ∧ ∃ v, (results fn a'.tmps).run P M'.w = .ok v M'.w ∧ (Grows w M'.w ∧ ((d.die x = true ∧ Ending.returned v = .panicked [{ v := d.val x, recovered := false }]) ∨
        (d.die x = false ∧ ∃ v', Ending.returned v = Ending.returned v' ∧ ∃ N : Stab, (∀ b o, N b o → w.heap.size ≤ b ∧ b < M'.w.heap.size) ∧ RelRes M'.w (fun b o => S b o ∨ N b o) d.res (d.fn x) v'))) := by
    intro hF
    have hF := holds_bind.1 hF
    simp only [evRes] at hF
    split at hF
    · exact hF.elim
    rename_i aas has
    split at hF
    · exact hF.elim
    rename_i y ws htk
    simp only [Tree.holds] at hF
    have hdx : d.die x = false ∧ y = d.fn x := by
      cases hd : d.die x with
      | true => rw [hd] at hF; cases hF
      | false => rw [hd] at hF; exact ⟨rfl, Sum.inr.inj hF⟩
    obtain ⟨hdx, rfl⟩ := hdx
    obtain ⟨us', q1, q2⟩ := resArgs_sound TOK I' hb' hr' has
    obtain ⟨_, S', fz, henc'⟩ := takes_sound I' q2 htk
    refine ⟨hap.defers, _, results_run q1, hgr, .inr ⟨hdx, _, rfl, fun b o => S' b o ∧ w.heap.size ≤ b, fun b o hN => ⟨hN.2, (fz.inv.here b o hN.1).2⟩, us', ?_, by rcases us' with _ | ⟨u, _ | ⟨v, us⟩⟩ <;> rfl⟩⟩
    refine henc'.keeps (fun b o hs => ⟨?_, rfl⟩)
    rcases (fz.inv.here b o hs).1 with h3 | h3 | h3
    · exact .inl h3
    · exact .inr ⟨hs, h3⟩
    · exact h3.elim
  cases z with
  | exit id => exact h1.elim
  | normal => exact fin h1
  | ret => exact fin h1
  | die v =>
    refine ⟨hap.defers, hgr, .inl ?_⟩
    simp only [evResD, Tree.holds] at h1
    cases hd : d.die x with
    | true => rw [hd] at h1; exact ⟨rfl, by rw [Sum.inl.inj h1]⟩
    | false => rw [hd] at h1; cases h1
end
end Go.Ev
/- Loops told by plain functions. -/
set_option linter.unusedVariables false
set_option linter.unusedSimpArgs false
namespace Go.Ev

/-- What a slot holds at a loop's head. -/
inductive Sh where
  | val (g : GTy)
  | tip (b : Nat)
  | ptr (b : Nat) (g : GTy)
  | nil
  | undef
inductive BSh where
  | var (g : GTy)
  | row (e : Nat) (g : GTy) (fz : Bool)
  /-- a text's iterator: the text, and how far it came -/
  | iter

@[reducible] def ShT : List (Nat × Sh) → Type
  | [] => Unit
  | (_, .val g) :: l => den g × ShT l
  | (_, .tip _) :: l => ShT l
  | (_, .ptr _ _) :: l => ShT l
  | (_, .nil) :: l => ShT l
  | (_, .undef) :: l => ShT l
@[reducible] def ShB : List (Nat × BSh) → Type
  | [] => Unit
  | (_, .var g) :: l => den g × ShB l
  | (_, .row _ g _) :: l => List (den g) × ShB l
  | (_, .iter) :: l => (List UInt8 × Nat) × ShB l

def mkT : (l : List (Nat × Sh)) → ShT l → List (Nat × AV)
  | [], _ => []
  | (t, .val g) :: l, x => (t, .val g x.1) :: mkT l x.2
  | (t, .tip b) :: l, x => (t, .tip b) :: mkT l x
  | (t, .ptr b g) :: l, x => (t, .ptr b g []) :: mkT l x
  | (t, .nil) :: l, x => (t, .cst (.slice none 0 0)) :: mkT l x
  | (t, .undef) :: l, x => (t, .undef) :: mkT l x
def mkB : (l : List (Nat × BSh)) → ShB l → List (Nat × Bool × Box)
  | [], _ => []
  | (b, .var g) :: l, x => (b, false, .var g x.1) :: mkB l x.2
  | (b, .row e g f) :: l, x => (b, false, .row e g x.1 f) :: mkB l x.2
  | (b, .iter) :: l, x => (b, false, .iter x.1.1 x.1.2) :: mkB l x.2

def asV (g : GTy) : AV → Option (den g)
  | .val h x => match GTy.dec h g with
    | .isTrue e => some (e ▸ x)
    | .isFalse _ => none
  | _ => none
def isTip (b : Nat) : AV → Bool
  | .tip c => Nat.beq c b
  | _ => false
def isPtr (b : Nat) (g : GTy) : AV → Bool
  | .ptr c h [] => Nat.beq c b && (match GTy.dec h g with | .isTrue _ => true | .isFalse _ => false)
  | _ => false
def isNil : AV → Bool
  | .cst (.slice none 0 0) => true
  | _ => false
def asVar (g : GTy) : Box → Option (den g)
  | .var h x => match GTy.dec h g with
    | .isTrue e => some (e ▸ x)
    | .isFalse _ => none
  | _ => none
def asRow (e : Nat) (g : GTy) (f : Bool) : Box → Option (List (den g))
  | .row d h x f' => match GTy.dec h g, Nat.beq d e, f', f with
    | .isTrue q, true, true, true => some (q ▸ x)
    | .isTrue q, true, false, false => some (q ▸ x)
    | _, _, _, _ => none
  | _ => none

def asIter : Box → Option (List UInt8 × Nat)
  | .iter y p => some (y, p)
  | _ => none
theorem asIter_eq {v : Box} {x : List UInt8 × Nat} (h : asIter v = some x) : v = .iter x.1 x.2 := by
  cases v <;> simp only [asIter] at h <;> try (cases h; done)
  simp only [Option.some.injEq] at h
  subst h
  rfl

theorem asV_eq {g : GTy} {v : AV} {x : den g} (h : asV g v = some x) : v = .val g x := by
  cases v <;> simp only [asV] at h <;> try (cases h; done)
  split at h
  · rename_i e _
    subst e
    simp only [Option.some.injEq] at h
    rw [h]
  · cases h
theorem isTip_eq {b : Nat} {v : AV} (h : isTip b v = true) : v = .tip b := by
  cases v <;> simp only [isTip] at h <;> try (cases h; done)
  rw [Nat.eq_of_beq_eq_true h]
theorem isPtr_eq {b : Nat} {g : GTy} {v : AV} (h : isPtr b g v = true) : v = .ptr b g [] := by
  cases v <;> simp only [isPtr] at h <;> try (cases h; done)
  rename_i c k p
  cases p with
  | cons _ _ => simp at h
  | nil =>
    simp only [Bool.and_eq_true] at h
    rw [Nat.eq_of_beq_eq_true h.1]
    have h2 := h.2
    split at h2
    · rename_i e _; rw [e]
    · cases h2
theorem isNil_eq {v : AV} (h : isNil v = true) : v = .cst (.slice none 0 0) := by
  unfold isNil at h
  split at h
  · rfl
  · cases h
theorem asVar_eq {g : GTy} {v : Box} {x : den g} (h : asVar g v = some x) : v = .var g x := by
  cases v <;> simp only [asVar] at h <;> try (cases h; done)
  split at h
  · rename_i e _
    subst e
    simp only [Option.some.injEq] at h
    rw [h]
  · cases h
theorem asRow_eq {e : Nat} {g : GTy} {f : Bool} {v : Box} {x : List (den g)} (h : asRow e g f v = some x) : v = .row e g x f := by
  cases v <;> simp only [asRow] at h <;> try (cases h; done)
  rename_i d k xs f'
  cases hd : Nat.beq d e with
  | false => rw [hd] at h; cases hq : GTy.dec k g <;> rw [hq] at h <;> simp at h
  | true =>
    have := Nat.eq_of_beq_eq_true hd
    subst this
    rw [hd] at h
    cases hq : GTy.dec k g with
    | isFalse _ => rw [hq] at h; simp at h
    | isTrue q =>
      subst q
      rw [hq] at h
      cases f <;> cases f' <;> simp at h <;> rw [h]

def unT : (l : List (Nat × Sh)) → List (Nat × AV) → Option (ShT l)
  | [], m => match m with
    | [] => some ()
    | _ :: _ => none
  | (t, .val g) :: l, m => match m with
    | [] => none
    | (u, v) :: m => match Nat.beq u t, asV g v, unT l m with
      | true, some y, some r => some (y, r)
      | _, _, _ => none
  | (t, .tip b) :: l, m => match m with
    | [] => none
    | (u, v) :: m => match Nat.beq u t, isTip b v with
      | true, true => unT l m
      | _, _ => none
  | (t, .ptr b g) :: l, m => match m with
    | [] => none
    | (u, v) :: m => match Nat.beq u t, isPtr b g v with
      | true, true => unT l m
      | _, _ => none
  | (t, .nil) :: l, m => match m with
    | [] => none
    | (u, v) :: m => match Nat.beq u t, isNil v with
      | true, true => unT l m
      | _, _ => none
  | (t, .undef) :: l, m => match m with
    | [] => none
    | (u, v) :: m => match Nat.beq u t, isUndef v with
      | true, true => unT l m
      | _, _ => none

def unB : (l : List (Nat × BSh)) → List (Nat × Bool × Box) → Option (ShB l)
  | [], m => match m with
    | [] => some ()
    | _ :: _ => none
  | (b, .var g) :: l, m => match m with
    | [] => none
    | (c, d, B) :: m => match Nat.beq c b, d, asVar g B, unB l m with
      | true, false, some y, some r => some (y, r)
      | _, _, _, _ => none
  | (b, .row e g f) :: l, m => match m with
    | [] => none
    | (c, d, B) :: m => match Nat.beq c b, d, asRow e g f B, unB l m with
      | true, false, some y, some r => some (y, r)
      | _, _, _, _ => none
  | (b, .iter) :: l, m => match m with
    | [] => none
    | (c, d, B) :: m => match Nat.beq c b, d, asIter B, unB l m with
      | true, false, some y, some r => some (y, r)
      | _, _, _, _ => none

theorem unT_eq : ∀ {l : List (Nat × Sh)} {m : List (Nat × AV)} {x : ShT l}, unT l m = some x → m = mkT l x
  | [], [], _, _ => rfl
  | [], _ :: _, _, h => by simp [unT] at h
  | (t, .val g) :: l, [], _, h => by simp [unT] at h
  | (t, .val g) :: l, (u, v) :: m, x, h => by
    simp only [unT] at h
    split at h
    · rename_i y r h1 h2 h3
      simp only [Option.some.injEq] at h
      subst h
      rw [Nat.eq_of_beq_eq_true h1, asV_eq h2, unT_eq h3]
      rfl
    · cases h
  | (t, .tip b) :: l, [], _, h => by simp [unT] at h
  | (t, .tip b) :: l, (u, v) :: m, x, h => by
    simp only [unT] at h
    split at h
    · rename_i h1 h2
      rw [Nat.eq_of_beq_eq_true h1, isTip_eq h2, unT_eq h]
      rfl
    · cases h
  | (t, .ptr b g) :: l, [], _, h => by simp [unT] at h
  | (t, .ptr b g) :: l, (u, v) :: m, x, h => by
    simp only [unT] at h
    split at h
    · rename_i h1 h2
      rw [Nat.eq_of_beq_eq_true h1, isPtr_eq h2, unT_eq h]
      rfl
    · cases h
  | (t, .nil) :: l, [], _, h => by simp [unT] at h
  | (t, .nil) :: l, (u, v) :: m, x, h => by
    simp only [unT] at h
    split at h
    · rename_i h1 h2
      rw [Nat.eq_of_beq_eq_true h1, isNil_eq h2, unT_eq h]
      rfl
    · cases h
  | (t, .undef) :: l, [], _, h => by simp [unT] at h
  | (t, .undef) :: l, (u, v) :: m, x, h => by
    simp only [unT] at h
    split at h
    · rename_i h1 h2
      have h2' : v = .undef := by cases v <;> simp [isUndef] at h2 ⊢
      rw [Nat.eq_of_beq_eq_true h1, h2', unT_eq h]
      rfl
    · cases h

theorem unB_eq : ∀ {l : List (Nat × BSh)} {m : List (Nat × Bool × Box)} {x : ShB l}, unB l m = some x → m = mkB l x
  | [], [], _, _ => rfl
  | [], _ :: _, _, h => by simp [unB] at h
  | (t, .var g) :: l, [], _, h => by simp [unB] at h
  | (t, .var g) :: l, (u, d, v) :: m, x, h => by
    simp only [unB] at h
    split at h
    · rename_i y r h1 h3 h4
      simp only [Option.some.injEq] at h
      subst h
      rw [Nat.eq_of_beq_eq_true h1, asVar_eq h3, unB_eq h4]
      rfl
    · cases h
  | (t, .row e g f) :: l, [], _, h => by simp [unB] at h
  | (t, .row e g f) :: l, (u, d, v) :: m, x, h => by
    simp only [unB] at h
    split at h
    · rename_i y r h1 h3 h4
      simp only [Option.some.injEq] at h
      subst h
      rw [Nat.eq_of_beq_eq_true h1, asRow_eq h3, unB_eq h4]
      rfl
    · cases h
  | (t, .iter) :: l, [], _, h => by simp [unB] at h
  | (t, .iter) :: l, (u, d, v) :: m, x, h => by
    simp only [unB] at h
    split at h
    · rename_i y r h1 h3 h4
      simp only [Option.some.injEq] at h
      subst h
      rw [Nat.eq_of_beq_eq_true h1, asIter_eq h3, unB_eq h4]
      rfl
    · cases h

def mkS (ts : List (Nat × Sh)) (bs : List (Nat × BSh)) (x : ShT ts × ShB bs) : St := ⟨mkT ts x.1, mkB bs x.2⟩
def unS (ts : List (Nat × Sh)) (bs : List (Nat × BSh)) (s : St) : Option (ShT ts × ShB bs) :=
  match unT ts s.tmps, unB bs s.boxes with
  | some x, some y => some (x, y)
  | _, _ => none
theorem unS_eq {ts : List (Nat × Sh)} {bs : List (Nat × BSh)} {s : St} {x : ShT ts × ShB bs} (h : unS ts bs s = some x) : s = mkS ts bs x := by
  unfold unS at h
  split at h
  · rename_i a b h1 h2
    simp only [Option.some.injEq] at h
    subst h
    obtain ⟨t, b'⟩ := s
    simp only at h1 h2
    rw [unT_eq h1, unB_eq h2]
    rfl
  · cases h

/-- A loop, told. -/
structure LoopD where
  prom : List (Nat × Nat × Nat × GTy)
  ts : List (Nat × Sh)
  bs : List (Nat × BSh)
  pre : ShT ts × ShB bs → Prop
  out : ShT ts × ShB bs → Tree (Ex × (ShT ts × ShB bs))

def LoopD.spec (D : LoopD) : LoopSpec :=
  { prom := D.prom, keep := D.ts.map (·.1), boxes := D.bs.map (·.1),
    sum := fun s => match unS D.ts D.bs s with
      | some x => .need (D.pre x) ((D.out x).bind fun p => .leaf (p.1, mkS D.ts D.bs p.2))
      | none => .stuck }

/-- What is told of a loop is so. -/
def LoopOK (C : Ctx) (L : LoopSpec) (body : Code) : Prop := ∀ (s : St) (F : Ex × St → Prop), (L.sum s).holds F → ∃ n, (iter L (ev C body) n s).holds F

theorem Tree.bind_assoc {α β γ : Type} (f : α → Tree β) (g : β → Tree γ) : ∀ t : Tree α, (t.bind f).bind g = t.bind fun a => (f a).bind g
  | .leaf _ => rfl
  | .br _ t e => by simp only [Tree.bind, Tree.bind_assoc f g t, Tree.bind_assoc f g e]
  | .need _ t => by simp only [Tree.bind, Tree.bind_assoc f g t]
  | .stuck => rfl

def cut (L : LoopSpec) (p : Ex × St) : Tree (Ex × St) :=
  match restrict L p.2 with
  | none => .stuck
  | some s' => .leaf (p.1, s')

theorem iter_succ (L : LoopSpec) (f : St → Tree (Ex × St)) (n : Nat) (s : St) : iter L f (n + 1) s = ((f s).bind (cut L)).bind fun p => match p.1 with
    | .normal => iter L f n p.2
    | e => .leaf (e, p.2) := by
  rw [Tree.bind_assoc]
  simp only [iter]
  congr 1
  funext ⟨e, s'⟩
  unfold cut
  simp only
  cases restrict L s' with
  | none => rfl
  | some s'' => cases e <;> simp only [Tree.bind]

/-- A round, read back by the loop's shape. -/
def roundOf (C : Ctx) (D : LoopD) (body : Code) (x : ShT D.ts × ShB D.bs) : Tree (Ex × Option (ShT D.ts × ShB D.bs)) :=
  ((ev C body (mkS D.ts D.bs x)).bind (cut D.spec)).bind fun p => .leaf (p.1, unS D.ts D.bs p.2)

section
variable {C : Ctx} {body : Code} {D : LoopD}

theorem loopD_ok {step : ShT D.ts × ShB D.bs → Tree (Ex × Option (ShT D.ts × ShB D.bs))} (hstep : ∀ x, roundOf C D body x = step x) (μ : ShT D.ts × ShB D.bs → Nat)
    (h : ∀ x, D.pre x → (step x).holds fun p => ∃ y, p.2 = some y ∧ match p.1 with
      | .normal => D.pre y ∧ μ y < μ x ∧ ∀ G, (D.out x).holds G → (D.out y).holds G
      | e => ∀ G, (D.out x).holds G → G (e, y)) : LoopOK C D.spec body := by
  intro s F hF
  simp only [LoopD.spec] at hF
  split at hF
  · rename_i x hx
    have hs := unS_eq hx
    subst hs
    obtain ⟨hp, hF⟩ := hF
    have hF' := holds_bind.1 hF
    have main : ∀ n x, μ x < n → D.pre x → (D.out x).holds (fun p => F (p.1, mkS D.ts D.bs p.2)) → (iter D.spec (ev C body) n (mkS D.ts D.bs x)).holds F := by
      intro n
      induction n with
      | zero => intro x hx; omega
      | succ n ih =>
        intro x hx hp ho
        rw [iter_succ]
        have hr := h x hp
        rw [← hstep] at hr
        refine holds_bind.2 (holds_mono ?_ (holds_bind.1 hr))
        rintro ⟨e, s'⟩ hy
        simp only [Tree.holds] at hy
        obtain ⟨y, h1, h2⟩ := hy
        have hs := unS_eq h1
        subst hs
        cases e with
        | normal =>
          simp only at h2 ⊢
          exact ih y (by omega) h2.1 (h2.2.2 _ ho)
        | exit id => exact h2 _ ho
        | ret => exact h2 _ ho
        | die v => exact h2 _ ho
    exact ⟨μ x + 1, main _ x (by omega) hp hF'⟩
  · exact hF.elim

/-- A loop that ends one way, told by a function. -/
theorem loopD_ok1 {step : ShT D.ts × ShB D.bs → Tree (Ex × Option (ShT D.ts × ShB D.bs))} {o : ShT D.ts × ShB D.bs → Ex × (ShT D.ts × ShB D.bs)} (ho : ∀ x, D.out x = .leaf (o x))
    (hstep : ∀ x, roundOf C D body x = step x) (μ : ShT D.ts × ShB D.bs → Nat)
    (h : ∀ x, D.pre x → (step x).holds fun p => ∃ y, p.2 = some y ∧ match p.1 with
      | .normal => D.pre y ∧ μ y < μ x ∧ o y = o x
      | e => o x = (e, y)) : LoopOK C D.spec body := by
  refine loopD_ok hstep μ fun x hp => holds_mono ?_ (h x hp)
  rintro ⟨e, z⟩ ⟨y, h1, hy⟩
  refine ⟨y, h1, ?_⟩
  cases e with
  | normal => exact ⟨hy.1, hy.2.1, fun G hG => by rw [ho] at hG ⊢; rw [hy.2.2]; exact hG⟩
  | exit id => intro G hG; rw [ho] at hG; simp only at hy; rw [← hy]; exact hG
  | ret => intro G hG; rw [ho] at hG; simp only at hy; rw [← hy]; exact hG
  | die v => intro G hG; rw [ho] at hG; simp only at hy; rw [← hy]; exact hG
end

/-! A function's loops -/

def loopsOf : Code → List (Nat × Code)
  | .seq a b => loopsOf a ++ loopsOf b
  | .cond _ a b => loopsOf a ++ loopsOf b
  | .loop c => loopsOf c
  | .scope c => loopsOf c
  | .block id c => match c with
    | .loop body => (id, body) :: loopsOf body
    | c => loopsOf c
  | _ => []
def loopB (id : Nat) (c : Code) : Code := (lk id (loopsOf c)).getD .skip

theorem lam_of {C : Ctx} : ∀ c : Code, (∀ id body, (id, body) ∈ loopsOf c → ∀ L, C.Λ id = some L → LoopOK C L body) → LamOK C c
  | .seq a b, h => ⟨lam_of a fun id body hm => h id body (by simp [loopsOf, hm]), lam_of b fun id body hm => h id body (by simp [loopsOf, hm])⟩
  | .cond _ a b, h => ⟨lam_of a fun id body hm => h id body (by simp [loopsOf, hm]), lam_of b fun id body hm => h id body (by simp [loopsOf, hm])⟩
  | .loop c, h => lam_of c h
  | .scope c, h => lam_of c h
  | .block id (.loop c), h => ⟨lam_of c fun id body hm => h id body (by simp [loopsOf, hm]), fun body hb L hL => by
      injection hb with hb
      subst hb
      exact h id c (by simp [loopsOf]) L hL⟩
  | .block id (.seq a b), h => ⟨lam_of (.seq a b) (by simpa [loopsOf] using h), fun body hb => nomatch hb⟩
  | .block id (.cond x a b), h => ⟨lam_of (.cond x a b) (by simpa [loopsOf] using h), fun body hb => nomatch hb⟩
  | .block id (.block j c), h => ⟨lam_of (.block j c) (by simpa [loopsOf] using h), fun body hb => nomatch hb⟩
  | .block id .skip, h | .block id (.region ..), h | .block id (.rangeFunc ..), h | .block id (.exit _), h | .block id (.label _), h | .block id (.goto _), h | .block id .ret, h | .block id (.refuse _), h => ⟨trivial, fun body hb => nomatch hb⟩
  | .block id (.scope c), h => ⟨lam_of (.scope c) (by simpa [loopsOf] using h), fun body hb => nomatch hb⟩
  | .skip, _ | .region .., _ | .rangeFunc .., _ | .exit _, _ | .label _, _ | .goto _, _ | .ret, _ | .refuse _, _ => trivial

/-! A loop whose rounds are carried out one by one -/

theorem runOps_congr {C C' : Ctx} (ht : C.τ = C'.τ) (hg : C.Γ = C'.Γ) : ∀ (l : List Oper) (s : St), runOps C l s = runOps C' l s
  | [], s => rfl
  | o :: l, s => by
    simp only [runOps, ht, hg]
    cases opEff C'.τ C'.Γ (o.dst.getD 0) o (s.args o) with
    | none => rfl
    | some e => simp only [runOps_congr ht hg l]
theorem effs_congr {C C' : Ctx} (ht : C.τ = C'.τ) (hg : C.Γ = C'.Γ) : ∀ (l : List Oper) (s : St), effs C l s = effs C' l s
  | [], s => rfl
  | o :: l, s => by
    simp only [effs, ht, hg]
    cases opEff C'.τ C'.Γ (o.dst.getD 0) o (s.args o) with
    | none => rfl
    | some e => simp only [effs_congr ht hg l]
theorem runBr_congr {C C' : Ctx} (ht : C.τ = C'.τ) (hg : C.Γ = C'.Γ) (hd : C.dec = C'.dec) (all : List Oper) : ∀ (l : List Oper) (s : St), runBr C all l s = runBr C' all l s
  | [], s => rfl
  | o :: l, s => by
    have ih := runBr_congr ht hg hd all l
    simp only [runBr, ht, hg, hd, ih]
theorem isDie_congr {C C' : Ctx} (hΔ : C.Δ = C'.Δ) (o : Oper) : isDie C o = isDie C' o := by
  unfold isDie
  rw [hΔ]
theorem dieOf_congr {C C' : Ctx} (hΔ : C.Δ = C'.Δ) (o : Oper) (l : List Arg) : dieOf C o l = dieOf C' o l := by
  unfold dieOf
  rw [hΔ]
theorem runOpsD_congr {C C' : Ctx} (ht : C.τ = C'.τ) (hg : C.Γ = C'.Γ) (hΔ : C.Δ = C'.Δ) : ∀ (l : List Oper) (s : St), runOpsD C l s = runOpsD C' l s
  | [], s => rfl
  | o :: l, s => by
    have ih : runOpsD C l = runOpsD C' l := funext (runOpsD_congr ht hg hΔ l)
    simp only [runOpsD, contD, ht, hg, dieOf_congr hΔ, ih]
theorem dieL_congr {C C' : Ctx} (hΔ : C.Δ = C'.Δ) : ∀ (l : List Oper) (r : List (St × Eff)), dieL C l r = dieL C' l r
  | [], r => by simp only [dieL]
  | _ :: _, [] => by simp only [dieL]
  | o :: l, x :: r => by simp only [dieL, dieOf_congr hΔ, dieL_congr hΔ l r]
theorem dieOK_congr {C C' : Ctx} (hΔ : C.Δ = C'.Δ) : ∀ (l : List Oper) (r : List (St × Eff)), dieOK C l r = dieOK C' l r
  | [], r => by simp only [dieOK]
  | _ :: _, [] => by simp only [dieOK]
  | o :: l, x :: r => by simp only [dieOK, dieOf_congr hΔ, dieOK_congr hΔ l r]
theorem effsNeedD_congr {C C' : Ctx} (hΔ : C.Δ = C'.Δ) (all : List Oper) : ∀ (l : List Oper) (r : List (St × Eff)) (t : Tree (Ex × St)), effsNeedD C all l r t = effsNeedD C' all l r t
  | [], r, t => by simp only [effsNeedD]
  | _ :: _, [], t => by simp only [effsNeedD]
  | o :: l, x :: r, t => by simp only [effsNeedD, dieOf_congr hΔ, effsNeedD_congr hΔ all l r t]
theorem regD_congr {C C' : Ctx} (ht : C.τ = C'.τ) (hg : C.Γ = C'.Γ) (hΔ : C.Δ = C'.Δ) (l : List Oper) (d : Bool) (s : St) : regD C l d s = regD C' l d s := by
  simp only [regD, runDrawD, runOpsD_congr ht hg hΔ, effs_congr ht hg, dieL_congr hΔ, dieOK_congr hΔ, effsNeedD_congr hΔ]
theorem ev_congr {C C' : Ctx} (ht : C.τ = C'.τ) (hg : C.Γ = C'.Γ) (hd : C.dec = C'.dec) (hΔ : C.Δ = C'.Δ) : ∀ (c : Code), (∀ id, id ∈ (loopsOf c).map (·.1) → C.Λ id = C'.Λ id) → ∀ s, ev C c s = ev C' c s
  | .region _ ops draw, h, s => by
    have hi : isDie C = isDie C' := funext (isDie_congr hΔ)
    simp only [ev, hi, regD_congr ht hg hΔ, runDraw, runOps_congr ht hg, effs_congr ht hg, runBr_congr ht hg hd]
  | .seq a b, h, s => by
    have ha := ev_congr ht hg hd hΔ a (fun id hm => h id (by simp only [loopsOf, List.map_append, List.mem_append]; exact .inl hm))
    have hb := ev_congr ht hg hd hΔ b (fun id hm => h id (by simp only [loopsOf, List.map_append, List.mem_append]; exact .inr hm))
    simp only [ev, ha]
    congr 1
    funext ⟨e, s'⟩
    cases e <;> simp only [hb]
  | .cond c a b, h, s => by
    have ha := ev_congr ht hg hd hΔ a (fun id hm => h id (by simp only [loopsOf, List.map_append, List.mem_append]; exact .inl hm))
    have hb := ev_congr ht hg hd hΔ b (fun id hm => h id (by simp only [loopsOf, List.map_append, List.mem_append]; exact .inr hm))
    simp only [ev, ha, hb, hd]
  | .block id (.loop body), h, s => by
    have := h id (by simp [loopsOf])
    simp only [ev, this]
  | .block id (.seq a b), h, s => by simp only [ev]; rw [← ev, ← ev, ev_congr ht hg hd hΔ (.seq a b) (by simpa [loopsOf] using h)]
  | .block id (.cond x a b), h, s => by
    have := ev_congr ht hg hd hΔ (.cond x a b) (by simpa [loopsOf] using h) s
    simp only [ev] at this ⊢
    rw [this]
  | .block id (.block j c), h, s => by
    have := ev_congr ht hg hd hΔ (.block j c) (by simpa [loopsOf] using h) s
    show (ev C (.block j c) s).bind _ = (ev C' (.block j c) s).bind _
    rw [this]
  | .block id (.region i ops d), h, s => by
    have := ev_congr ht hg hd hΔ (.region i ops d) (by simp [loopsOf]) s
    show (ev C (.region i ops d) s).bind _ = (ev C' (.region i ops d) s).bind _
    rw [this]
  | .block id (.scope c), h, s => by
    have := ev_congr ht hg hd hΔ (.scope c) (by simpa [loopsOf] using h) s
    show (ev C (.scope c) s).bind _ = (ev C' (.scope c) s).bind _
    rw [this]
  | .scope c, h, s => by simp only [ev]; exact ev_congr ht hg hd hΔ c h s
  | .block id .skip, h, s | .block id (.rangeFunc ..), h, s | .block id (.exit _), h, s | .block id (.label _), h, s | .block id (.goto _), h, s | .block id .ret, h, s | .block id (.refuse _), h, s => by simp only [ev]
  | .loop c, h, s => by simp only [ev]
  | .skip, _, _ | .rangeFunc .., _, _ | .exit _, _, _ | .label _, _, _ | .goto _, _, _ | .ret, _, _ | .refuse _, _, _ => by simp only [ev]

theorem iter_congr {L L' : LoopSpec} (hk : L.keep = L'.keep) (hb : L.boxes = L'.boxes) {f f' : St → Tree (Ex × St)} (hf : ∀ s, f s = f' s) : ∀ n s, iter L f n s = iter L' f' n s
  | 0, s => rfl
  | n + 1, s => by
    have hr : ∀ s, restrict L s = restrict L' s := fun s => by unfold restrict; rw [hk, hb]
    simp only [iter, hf, hr, iter_congr hk hb hf n]

def rounds (C : Ctx) (body : Code) (prom : List (Nat × Nat × Nat × GTy)) (keep boxes : List Nat) (n : Nat) : LoopSpec :=
  { prom := prom, keep := keep, boxes := boxes, sum := fun s => iter { prom := [], keep := keep, boxes := boxes, sum := fun _ => .stuck } (ev C body) n s }

theorem rounds_ok {C C' : Ctx} {body : Code} {prom : List (Nat × Nat × Nat × GTy)} {keep boxes : List Nat} {n : Nat} (ht : C.τ = C'.τ) (hg : C.Γ = C'.Γ) (hd : C.dec = C'.dec) (hl : ∀ id, id ∈ (loopsOf body).map (·.1) → C.Λ id = C'.Λ id) (hΔ : C.Δ = C'.Δ := by rfl) :
    LoopOK C (rounds C' body prom keep boxes n) body := by
  intro s F hF
  refine ⟨n, ?_⟩
  have : ∀ m t, iter (rounds C' body prom keep boxes n) (ev C body) m t = iter { prom := [], keep := keep, boxes := boxes, sum := fun _ => .stuck } (ev C' body) m t := iter_congr (L := rounds C' body prom keep boxes n) (L' := { prom := [], keep := keep, boxes := boxes, sum := fun _ => .stuck }) rfl rfl (ev_congr ht hg hd hΔ body hl)
  rw [this]
  exact hF

theorem rounds_ok0 {C C' : Ctx} {body : Code} {prom : List (Nat × Nat × Nat × GTy)} {keep boxes : List Nat} {n : Nat} (ht : C.τ = C'.τ) (hg : C.Γ = C'.Γ) (hd : C.dec = C'.dec) (hl : (loopsOf body).isEmpty = true) (hΔ : C.Δ = C'.Δ := by rfl) :
    LoopOK C (rounds C' body prom keep boxes n) body :=
  rounds_ok ht hg hd (fun id hm => by
    rw [List.isEmpty_iff.1 hl] at hm
    simp at hm) hΔ

theorem lk_mem {α : Type} {k : Nat} {v : α} : ∀ {l : List (Nat × α)}, nodupN (l.map (·.1)) = true → (k, v) ∈ l → lk k l = some v
  | (j, u) :: l, hn, hm => by
    simp only [List.map_cons, nodupN, Bool.and_eq_true, Bool.not_eq_true'] at hn
    rcases List.mem_cons.1 hm with e | hm
    · simp only [Prod.mk.injEq] at e
      obtain ⟨rfl, rfl⟩ := e
      simp [lk]
    · have ih := lk_mem hn.2 hm
      simp only [lk]
      cases hb : Nat.beq j k with
      | false => exact ih
      | true =>
        have := Nat.eq_of_beq_eq_true hb
        subst this
        have : memN j (l.map (·.1)) = true := memN_iff.2 (List.mem_map.2 ⟨_, hm, rfl⟩)
        rw [this] at hn
        simp at hn
  | [], _, hm => by cases hm

theorem lk_all {α : Type} {Q : Nat → α → Prop} : ∀ {l : List (Nat × α)}, (∀ p ∈ l, Q p.1 p.2) → ∀ {k v}, lk k l = some v → Q k v
  | (j, u) :: l, h, k, v, hk => by
    simp only [lk] at hk
    cases hb : Nat.beq j k with
    | true =>
      rw [hb] at hk
      simp only [Option.some.injEq] at hk
      have := Nat.eq_of_beq_eq_true hb
      subst this
      subst hk
      exact h (j, u) (by simp)
    | false =>
      rw [hb] at hk
      exact lk_all (fun p hp => h p (by simp [hp])) hk
  | [], _, _, _, hk => by simp [lk] at hk

def fnOf (P : Program) (f : Nat) : Func := (P.funcs[f]?).getD default
theorem fnOf_eq {P : Program} {f : Nat} (h : (P.funcs[f]?).isSome = true) : P.funcs[f]? = some (fnOf P f) := by
  unfold fnOf
  cases hh : P.funcs[f]? with
  | none => rw [hh] at h; cases h
  | some x => rfl
def bodyOf (fn : Func) : Code := fn.body.getD .skip
theorem bodyOf_eq {fn : Func} (h : fn.body.isSome = true) : fn.body = some (bodyOf fn) := by
  unfold bodyOf
  cases hh : fn.body with
  | none => rw [hh] at h; cases h
  | some x => rfl

theorem ctrs_nil {P : Program} : CtrsOK P (fun f => lk f []) := fun f c h => by simp [lk] at h
theorem ctrs_cons {P : Program} {n : Nat} {c : Ctr} {l : List (Nat × Ctr)} (h : CtrOK P n c) (t : CtrsOK P (fun f => lk f l)) : CtrsOK P (fun f => lk f ((n, c) :: l)) := fun f c' h' => by
  simp only [lk] at h'
  cases hb : Nat.beq n f with
  | true =>
    rw [hb] at h'
    simp only [Option.some.injEq] at h'
    have := Nat.eq_of_beq_eq_true hb
    subst this
    subst h'
    exact h
  | false =>
    rw [hb] at h'
    exact t f c' h'

theorem lp_nil {C : Ctx} {b : Code} : ∀ p ∈ ([] : List (Nat × LoopSpec)), LoopOK C p.2 (loopB p.1 b) := fun p hp => by cases hp
theorem lp_cons {C : Ctx} {b : Code} {id : Nat} {L : LoopSpec} {l : List (Nat × LoopSpec)} (h : LoopOK C L (loopB id b)) (t : ∀ p ∈ l, LoopOK C p.2 (loopB p.1 b)) : ∀ p ∈ (id, L) :: l, LoopOK C p.2 (loopB p.1 b) := fun p hp => by
  rcases List.mem_cons.1 hp with rfl | hp
  · exact h
  · exact t p hp

/-- What a tree comes to. -/
def Tree.val {α : Type} (d : α) : Tree α → α
  | .leaf a => a
  | .br c t e => bif c then t.val d else e.val d
  | .need _ t => t.val d
  | .stuck => d
/-- Whatever way is taken, what must hold does. -/
def Tree.safe {α : Type} : Tree α → Prop
  | .leaf _ => True
  | .br c t e => (c = true → t.safe) ∧ (c = false → e.safe)
  | .need p t => p ∧ t.safe
  | .stuck => False
theorem holds_val {α : Type} {d a : α} : ∀ {t : Tree α}, t.val d = a → t.safe → t.holds (fun y => y = a)
  | .leaf _, h, _ => h
  | .br c t e, h, hs => by
    refine ⟨fun hc => holds_val (d := d) (by simpa [Tree.val, hc] using h) (hs.1 hc), fun hc => holds_val (d := d) (by simpa [Tree.val, hc] using h) (hs.2 hc)⟩
  | .need _ t, h, hs => ⟨hs.1, holds_val (d := d) h hs.2⟩
  | .stuck, _, hs => hs.elim

/-- Contracts, and loops, by their numbers. -/
def mkC (τ : Tys) (G : List (Nat × Ctr)) (Λ : List (Nat × LoopSpec)) (d : Bool := false) (D : List (Nat × DCtr) := []) : Ctx := ⟨τ, fun f => lk f G, fun id => lk id Λ, d, fun f => lk f D⟩
theorem dsOK_nil {P : Program} {C : Ctx} (h : C.Δ = fun _ => none) : DsOK P C := fun f d hd => by
  rw [h] at hd
  cases hd

/-- A function keeps its contract. -/
theorem fun_okX (d : Bool) {P : Program} {τ : Tys} {G : List (Nat × Ctr)} {Λ : List (Nat × LoopSpec)} (TOK : TysOK P τ) (GC : CtrsOK P (fun f => lk f G)) (hmix : P.follows .mixedOrders = true) {f : Nat} {c : Ctr}
    (hf : (P.funcs[f]?).isSome = true) (hname : ((fnOf P f).name == "runtime.NumGoroutine") = false) (hbody : (fnOf P f).body.isSome = true) (hnd : nodupN ((loopsOf (bodyOf (fnOf P f))).map (·.1)) = true)
    (hloops : ∀ p ∈ Λ, LoopOK (mkC τ G Λ d) p.2 (loopB p.1 (bodyOf (fnOf P f))))
    (h : ∀ x : dens c.args, wtD c.args x → (∀ p, c.pre = some p → p x) → (evFn (mkC τ G Λ d) (fnOf P f) (resL c.args x) c.res).holds (fun y => y = c.fn x)) : CtrOK P f c := by
  refine ctr_of_ev (C := mkC τ G Λ d) (fn := fnOf P f) TOK GC (dsOK_nil rfl) hmix (fnOf_eq hf) hname (bodyOf_eq hbody) (lam_of _ fun id body hm L hL => ?_) h
  have hk := lk_mem hnd hm
  have := lk_all (Q := fun id L => LoopOK (mkC τ G Λ d) L (loopB id (bodyOf (fnOf P f)))) hloops hL
  unfold loopB at this
  rw [hk] at this
  exact this
/-- A function keeps its contract. -/
theorem fun_ok {P : Program} {τ : Tys} {G : List (Nat × Ctr)} {Λ : List (Nat × LoopSpec)} (TOK : TysOK P τ) (GC : CtrsOK P (fun f => lk f G)) (hmix : P.follows .mixedOrders = true) {f : Nat} {c : Ctr}
    (hf : (P.funcs[f]?).isSome = true) (hname : ((fnOf P f).name == "runtime.NumGoroutine") = false) (hbody : (fnOf P f).body.isSome = true) (hnd : nodupN ((loopsOf (bodyOf (fnOf P f))).map (·.1)) = true)
    (hloops : ∀ p ∈ Λ, LoopOK (mkC τ G Λ) p.2 (loopB p.1 (bodyOf (fnOf P f))))
    (h : ∀ x : dens c.args, wtD c.args x → (∀ p, c.pre = some p → p x) → (evFn (mkC τ G Λ) (fnOf P f) (resL c.args x) c.res).holds (fun y => y = c.fn x)) : CtrOK P f c :=
  fun_okX false TOK GC hmix hf hname hbody hnd hloops h
theorem ds_nil {P : Program} {G : List (Nat × Ctr)} : ∀ f d, lk f ([] : List (Nat × DCtr)) = some d → lk f G = some d.ctr ∧ DCtrOK P f d := fun f d h => by simp [lk] at h
/-- … of those that may panic. -/
theorem ds_cons {P : Program} {G : List (Nat × Ctr)} {n : Nat} {d : DCtr} {D : List (Nat × DCtr)} (h : DCtrOK P n d) (hG : lk n G = some d.ctr) (t : ∀ f d, lk f D = some d → lk f G = some d.ctr ∧ DCtrOK P f d) :
    ∀ f d', lk f ((n, d) :: D) = some d' → lk f G = some d'.ctr ∧ DCtrOK P f d' := fun f d' h' => by
  simp only [lk] at h'
  cases hb : Nat.beq n f with
  | true =>
    rw [hb] at h'
    simp only [Option.some.injEq] at h'
    have := Nat.eq_of_beq_eq_true hb
    subst this
    subst h'
    exact ⟨hG, h⟩
  | false =>
    rw [hb] at h'
    exact t f d' h'
/-- A function that may panic keeps its contract. -/
theorem funD_ok {P : Program} {τ : Tys} {G : List (Nat × Ctr)} {Λ : List (Nat × LoopSpec)} {D : List (Nat × DCtr)} (TOK : TysOK P τ) (GC : CtrsOK P (fun f => lk f G)) (DK : ∀ f d, lk f D = some d → lk f G = some d.ctr ∧ DCtrOK P f d) (hmix : P.follows .mixedOrders = true) {f : Nat} {c : DCtr}
    (hf : (P.funcs[f]?).isSome = true) (hname : ((fnOf P f).name == "runtime.NumGoroutine") = false) (hbody : (fnOf P f).body.isSome = true) (hnd : nodupN ((loopsOf (bodyOf (fnOf P f))).map (·.1)) = true)
    (hloops : ∀ p ∈ Λ, LoopOK (mkC τ G Λ false D) p.2 (loopB p.1 (bodyOf (fnOf P f))))
    (h : ∀ x : dens c.args, wtD c.args x → (evFnD (mkC τ G Λ false D) (fnOf P f) (resL c.args x) c.res).holds (fun y => y = bif c.die x then .inl (c.val x) else .inr (c.fn x))) : DCtrOK P f c := by
  refine dctr_of_ev (C := mkC τ G Λ false D) (fn := fnOf P f) TOK GC DK hmix (fnOf_eq hf) hname (bodyOf_eq hbody) (lam_of _ fun id body hm L hL => ?_) h
  have hk := lk_mem hnd hm
  have := lk_all (Q := fun id L => LoopOK (mkC τ G Λ false D) L (loopB id (bodyOf (fnOf P f)))) hloops hL
  unfold loopB at this
  rw [hk] at this
  exact this
end Go.Ev
/- The types of this seat's program, and what holds of it as a whole. -/
namespace Go.Ev.P
open Go.Proofs
def tyL : List (Option TInfo) := [
  none,
  none,
  some ⟨.int .i64, 0, 8, 0⟩,
  some ⟨.int .i64, 0, 8, 0⟩,
  some ⟨.bool, 0, 1, 0⟩,
  some ⟨.int .u8, 0, 1, 0⟩,
  some ⟨.int .u8, 0, 1, 0⟩,
  none,
  none,
  some ⟨.str, 0, 16, 0⟩,
  some ⟨.str, 0, 16, 0⟩,
  some ⟨.str, 0, 16, 0⟩,
  some ⟨.int .u64, 0, 8, 0⟩,
  none,
  none,
  none,
  none,
  none,
  none,
  none,
  none,
  some ⟨.int .i32, 0, 4, 0⟩,
  some ⟨.int .u32, 0, 4, 0⟩,
  some ⟨.prod (.int .u32) (.int .u32), 2, 8, 0⟩,
  some ⟨.prod (.int .u32) (.int .u32), 2, 8, 0⟩,
  some ⟨.sl (.prod (.int .i64) (.prod .str (.prod (.int .i64) (.int .i64)))), 0, 40, 203⟩,
  some ⟨.sl (.prod (.int .i64) (.prod (.prod (.prod (.int .u32) (.int .u32)) (.prod (.int .u32) (.int .u32))) (.prod (.int .i64) (.prod .bool (.sl (.prod (.int .i64) (.prod (.int .i64) (.prod (.int .u32) (.int .i64))))))))), 0, 64, 94⟩,
  some ⟨.prod (.int .i64) (.sl (.prod (.int .i64) (.prod (.prod (.prod (.int .u32) (.int .u32)) (.prod (.int .u32) (.int .u32))) (.prod (.int .i64) (.prod .bool (.sl (.prod (.int .i64) (.prod (.int .i64) (.prod (.int .u32) (.int .i64)))))))))), 2, 32, 0⟩,
  some ⟨.prod (.int .i64) (.sl (.prod (.int .i64) (.prod (.prod (.prod (.int .u32) (.int .u32)) (.prod (.int .u32) (.int .u32))) (.prod (.int .i64) (.prod .bool (.sl (.prod (.int .i64) (.prod (.int .i64) (.prod (.int .u32) (.int .i64)))))))))), 2, 32, 0⟩,
  some ⟨.sl (.prod (.int .i64) (.prod (.int .i64) (.prod (.int .u32) (.int .i64)))), 0, 32, 149⟩,
  some ⟨.prod (.int .i64) (.prod (.sl (.prod (.int .i64) (.prod .str (.prod (.int .i64) (.int .i64))))) (.prod (.prod (.int .i64) (.sl (.prod (.int .i64) (.prod (.prod (.prod (.int .u32) (.int .u32)) (.prod (.int .u32) (.int .u32))) (.prod (.int .i64) (.prod .bool (.sl (.prod (.int .i64) (.prod (.int .i64) (.prod (.int .u32) (.int .i64))))))))))) (.sl (.prod (.int .i64) (.prod (.int .i64) (.prod (.int .u32) (.int .i64))))))), 4, 88, 0⟩,
  some ⟨.prod (.int .i64) (.prod (.sl (.prod (.int .i64) (.prod .str (.prod (.int .i64) (.int .i64))))) (.prod (.prod (.int .i64) (.sl (.prod (.int .i64) (.prod (.prod (.prod (.int .u32) (.int .u32)) (.prod (.int .u32) (.int .u32))) (.prod (.int .i64) (.prod .bool (.sl (.prod (.int .i64) (.prod (.int .i64) (.prod (.int .u32) (.int .i64))))))))))) (.sl (.prod (.int .i64) (.prod (.int .i64) (.prod (.int .u32) (.int .i64))))))), 4, 88, 0⟩,
  some ⟨.prod (.int .i64) (.prod (.prod (.int .u32) (.int .u32)) (.prod (.prod (.int .u32) (.int .u32)) (.prod (.int .i64) (.prod (.int .i64) (.prod (.int .i64) (.prod (.sl (.prod (.int .i64) (.prod .str (.prod (.int .i64) (.int .i64))))) (.prod (.prod (.int .i64) (.sl (.prod (.int .i64) (.prod (.prod (.prod (.int .u32) (.int .u32)) (.prod (.int .u32) (.int .u32))) (.prod (.int .i64) (.prod .bool (.sl (.prod (.int .i64) (.prod (.int .i64) (.prod (.int .u32) (.int .i64))))))))))) (.sl (.prod (.int .i64) (.prod (.int .i64) (.prod (.int .u32) (.int .i64)))))))))))), 6, 128, 0⟩,
  some ⟨.prod (.int .i64) (.prod (.prod (.int .u32) (.int .u32)) (.prod (.prod (.int .u32) (.int .u32)) (.prod (.int .i64) (.prod (.int .i64) (.prod (.int .i64) (.prod (.sl (.prod (.int .i64) (.prod .str (.prod (.int .i64) (.int .i64))))) (.prod (.prod (.int .i64) (.sl (.prod (.int .i64) (.prod (.prod (.prod (.int .u32) (.int .u32)) (.prod (.int .u32) (.int .u32))) (.prod (.int .i64) (.prod .bool (.sl (.prod (.int .i64) (.prod (.int .i64) (.prod (.int .u32) (.int .i64))))))))))) (.sl (.prod (.int .i64) (.prod (.int .i64) (.prod (.int .u32) (.int .i64)))))))))))), 6, 128, 0⟩,
  some ⟨.prod (.int .i64) (.prod (.int .i64) (.prod (.int .i64) (.int .i64))), 4, 32, 0⟩,
  some ⟨.prod (.int .i64) (.prod (.int .i64) (.prod (.int .i64) (.int .i64))), 4, 32, 0⟩,
  none,
  none,
  none,
  none,
  none,
  none,
  none,
  none,
  some ⟨.arr 3 (.int .i64), 0, 24, 0⟩,
  none,
  some ⟨.int .u64, 0, 8, 0⟩,
  none,
  none,
  some ⟨.int .i64, 0, 8, 0⟩,
  none,
  none,
  none,
  some ⟨.prod (.prod (.int .u32) (.int .u32)) (.prod (.int .u32) (.int .u32)), 2, 16, 0⟩,
  some ⟨.prod (.prod (.int .u32) (.int .u32)) (.prod (.int .u32) (.int .u32)), 2, 16, 0⟩,
  none,
  none,
  none,
  none,
  none,
  none,
  none,
  some ⟨.arr 16 (.int .i64), 0, 128, 0⟩,
  some ⟨.arr 16 (.prod (.prod (.int .u32) (.int .u32)) (.prod (.int .u32) (.int .u32))), 0, 256, 0⟩,
  some ⟨.prod (.int .i64) (.prod (.arr 16 (.int .i64)) (.arr 16 (.prod (.prod (.int .u32) (.int .u32)) (.prod (.int .u32) (.int .u32))))), 3, 392, 0⟩,
  some ⟨.prod (.int .i64) (.prod (.arr 16 (.int .i64)) (.arr 16 (.prod (.prod (.int .u32) (.int .u32)) (.prod (.int .u32) (.int .u32))))), 3, 392, 0⟩,
  some ⟨.prod (.int .i64) (.prod (.prod (.prod (.int .u32) (.int .u32)) (.prod (.int .u32) (.int .u32))) (.prod (.int .i64) (.prod (.int .i64) (.prod (.int .i64) .str)))), 6, 64, 0⟩,
  some ⟨.prod (.int .i64) (.prod (.prod (.prod (.int .u32) (.int .u32)) (.prod (.int .u32) (.int .u32))) (.prod (.int .i64) (.prod (.int .i64) (.prod (.int .i64) .str)))), 6, 64, 0⟩,
  none,
  none,
  none,
  none,
  none,
  some ⟨.arr 16 (.int .u32), 0, 64, 0⟩,
  some ⟨.prod (.int .i64) (.arr 16 (.int .u32)), 2, 72, 0⟩,
  some ⟨.prod (.int .i64) (.arr 16 (.int .u32)), 2, 72, 0⟩,
  some ⟨.prod (.int .i64) (.prod (.prod (.int .i64) (.prod (.int .i64) (.prod (.int .i64) (.int .i64)))) (.prod (.int .i64) (.arr 16 (.int .u32)))), 3, 112, 0⟩,
  some ⟨.prod (.int .i64) (.prod (.prod (.int .i64) (.prod (.int .i64) (.prod (.int .i64) (.int .i64)))) (.prod (.int .i64) (.arr 16 (.int .u32)))), 3, 112, 0⟩,
  some ⟨.sl (.prod (.int .i64) (.prod (.prod (.int .i64) (.prod (.int .i64) (.prod (.int .i64) (.int .i64)))) (.prod (.int .i64) (.arr 16 (.int .u32))))), 0, 112, 77⟩,
  none,
  none,
  none,
  none,
  none,
  none,
  none,
  none,
  none,
  some ⟨.arr 2 (.int .i64), 0, 16, 0⟩,
  some ⟨.sl (.int .u8), 0, 1, 5⟩,
  none,
  some ⟨.prod (.int .i64) (.prod (.prod (.int .u32) (.int .u32)) (.prod (.int .u32) (.int .u32))), 2, 24, 0⟩,
  some ⟨.prod (.int .i64) (.prod (.prod (.int .u32) (.int .u32)) (.prod (.int .u32) (.int .u32))), 2, 24, 0⟩,
  some ⟨.prod (.int .i64) (.prod (.prod (.prod (.int .u32) (.int .u32)) (.prod (.int .u32) (.int .u32))) (.prod (.int .i64) (.prod .bool (.sl (.prod (.int .i64) (.prod (.int .i64) (.prod (.int .u32) (.int .i64)))))))), 5, 64, 0⟩,
  some ⟨.prod (.int .i64) (.prod (.prod (.prod (.int .u32) (.int .u32)) (.prod (.int .u32) (.int .u32))) (.prod (.int .i64) (.prod .bool (.sl (.prod (.int .i64) (.prod (.int .i64) (.prod (.int .u32) (.int .i64)))))))), 5, 64, 0⟩,
  some ⟨.prod (.int .i64) (.prod (.prod (.prod (.int .u32) (.int .u32)) (.prod (.int .u32) (.int .u32))) (.prod (.int .i64) (.int .i64))), 4, 40, 0⟩,
  some ⟨.prod (.int .i64) (.prod (.prod (.prod (.int .u32) (.int .u32)) (.prod (.int .u32) (.int .u32))) (.prod (.int .i64) (.int .i64))), 4, 40, 0⟩,
  some ⟨.prod (.prod (.int .i64) (.prod (.prod (.prod (.int .u32) (.int .u32)) (.prod (.int .u32) (.int .u32))) (.prod (.int .i64) (.prod .bool (.sl (.prod (.int .i64) (.prod (.int .i64) (.prod (.int .u32) (.int .i64))))))))) (.prod (.prod (.int .i64) (.prod (.prod (.prod (.int .u32) (.int .u32)) (.prod (.int .u32) (.int .u32))) (.prod (.int .i64) (.int .i64)))) (.prod (.int .i64) (.prod (.prod (.prod (.int .u32) (.int .u32)) (.prod (.int .u32) (.int .u32))) (.prod (.int .i64) (.prod (.int .i64) (.prod (.int .i64) .str)))))), 3, 168, 0⟩,
  some ⟨.prod (.prod (.int .i64) (.prod (.prod (.prod (.int .u32) (.int .u32)) (.prod (.int .u32) (.int .u32))) (.prod (.int .i64) (.prod .bool (.sl (.prod (.int .i64) (.prod (.int .i64) (.prod (.int .u32) (.int .i64))))))))) (.prod (.prod (.int .i64) (.prod (.prod (.prod (.int .u32) (.int .u32)) (.prod (.int .u32) (.int .u32))) (.prod (.int .i64) (.int .i64)))) (.prod (.int .i64) (.prod (.prod (.prod (.int .u32) (.int .u32)) (.prod (.int .u32) (.int .u32))) (.prod (.int .i64) (.prod (.int .i64) (.prod (.int .i64) .str)))))), 3, 168, 0⟩,
  none,
  none,
  none,
  none,
  none,
  none,
  none,
  none,
  some ⟨.sl (.sl (.prod (.int .i64) (.prod (.int .i64) (.prod (.int .u32) (.int .i64))))), 0, 24, 29⟩,
  some ⟨.sl (.int .i64), 0, 8, 3⟩,
  none,
  some ⟨.sl .str, 0, 16, 9⟩,
  none,
  none,
  none,
  none,
  none,
  none,
  none,
  none,
  none,
  none,
  none,
  none,
  none,
  none,
  none,
  none,
  none,
  none,
  some ⟨.arr 4 (.int .u32), 0, 16, 0⟩,
  none,
  none,
  some ⟨.arr 2 (.prod (.int .u32) (.int .u32)), 0, 16, 0⟩,
  none,
  none,
  none,
  none,
  none,
  none,
  none,
  none,
  none,
  none,
  none,
  none,
  none,
  none,
  none,
  some ⟨.prod (.int .i64) (.prod (.int .i64) (.prod (.int .u32) (.int .i64))), 4, 32, 0⟩,
  some ⟨.prod (.int .i64) (.prod (.int .i64) (.prod (.int .u32) (.int .i64))), 4, 32, 0⟩,
  none,
  none,
  none,
  none,
  none,
  none,
  none,
  none,
  none,
  none,
  none,
  none,
  none,
  none,
  none,
  none,
  none,
  none,
  none,
  none,
  none,
  none,
  none,
  none,
  none,
  none,
  none,
  none,
  none,
  none,
  none,
  none,
  none,
  none,
  none,
  some ⟨.int .u64, 0, 8, 0⟩,
  none,
  none,
  none,
  none,
  none,
  none,
  none,
  none,
  none,
  some ⟨.arr 17 (.int .u8), 0, 17, 0⟩,
  none,
  none,
  none,
  none,
  none,
  none,
  some ⟨.prod (.int .i64) (.prod .str (.prod (.int .i64) (.int .i64))), 4, 40, 0⟩,
  some ⟨.prod (.int .i64) (.prod .str (.prod (.int .i64) (.int .i64))), 4, 40, 0⟩,
  none,
  none,
  none,
  none,
  none,
  none,
  none,
  none,
  none,
  none,
  none,
  none,
  none,
  none,
  none,
  none,
  none,
  none,
  none,
  none,
  none,
  none,
  none,
  none,
  none,
  none,
  none,
  some ⟨.arr 8 (.int .i64), 0, 64, 0⟩,
  none,
  none,
  none,
  none,
  none,
  none,
  none,
  none,
  none,
  none,
  none,
  none,
  none,
  none,
  none,
  some ⟨.int .u8, 0, 1, 0⟩,
  some ⟨.int .u8, 0, 1, 0⟩,
  none,
  some ⟨.int .i32, 0, 4, 0⟩,
  some ⟨.int .i32, 0, 4, 0⟩,
  none,
  none]

def tys : Tys := fun t => tyL.getD t none
theorem tysOK : TysOK Try.prog tys := tysOK_of_chk (by kernel_rfl)
theorem mixed : Try.prog.follows .mixedOrders = true := by kernel_rfl
theorem tab_any {S : Stab} {w : World} : Tab S w := ⟨fun p hp => (by cases hp), fun p hp => (by cases hp)⟩
end Go.Ev.P
/- Epochs and numbers in bytes, plainly. -/
set_option linter.unusedVariables false
namespace Go.Ev

abbrev gE : GTy := .prod (.int .u32) (.int .u32)
abbrev gPair : GTy := .prod gE gE

def newerF (a b : Int × Int) : Bool := bif a.1 != b.1 then decide (a.1 > b.1) else decide (a.2 > b.2)
def nextF (e : Int × Int) : (Int × Int) × Int := bif e.2 == 4294967295 then ((0, 0), 11) else ((e.1, e.2 + 1), 0)
def rebootF (e : Int × Int) : (Int × Int) × Int := bif e.1 == 4294967295 then ((0, 0), 11) else ((e.1 + 1, 0), 0)
def noneF (e : Int × Int) : Bool := e.1 == 0 && e.2 == 0
def swapF (p : (Int × Int) × (Int × Int)) : (Int × Int) × (Int × Int) := (p.2, p.1)
def sameF (a b : (Int × Int) × (Int × Int)) : Bool := geq gPair a (swapF b) && !(noneF a.1) && !(noneF a.2)

/-- The lowest k bytes of a number, the highest one first. -/
def numB : Nat → Nat → List UInt8
  | 0, _ => []
  | k + 1, n => numB k (n / 256) ++ [UInt8.ofNat (n % 256)]
/-- The number that bytes tell. -/
def bigN (l : List UInt8) : Nat := l.foldl (fun a b => a * 256 + b.toNat) 0

theorem numB_len : ∀ k n, (numB k n).length = k
  | 0, _ => rfl
  | k + 1, n => by simp [numB, numB_len k]
theorem bigN_snoc (l : List UInt8) (b : UInt8) : bigN (l ++ [b]) = bigN l * 256 + b.toNat := by simp [bigN]
theorem bigN_num : ∀ k n, bigN (numB k n) = n % 256 ^ k
  | 0, n => by simp [numB, bigN, Nat.mod_one]
  | k + 1, n => by
    rw [numB, bigN_snoc, bigN_num k]
    have h : (UInt8.ofNat (n % 256)).toNat = n % 256 := by simp
    rw [h, Nat.pow_succ, Nat.mul_comm (256 ^ k) 256, Nat.mod_mul]
    omega
theorem big_lt : ∀ (l : List UInt8) (a : Nat), l.foldl (fun a b => a * 256 + b.toNat) a < (a + 1) * 256 ^ l.length
  | [], a => by simp
  | b :: l, a => by
    have h := big_lt l (a * 256 + b.toNat)
    have hb := b.toNat_lt
    simp only [List.foldl_cons, List.length_cons, Nat.pow_succ]
    refine Nat.lt_of_lt_of_le h ?_
    rw [Nat.mul_comm (256 ^ l.length) 256, ← Nat.mul_assoc]
    exact Nat.mul_le_mul_right _ (by omega)
theorem bigN_lt (l : List UInt8) : bigN l < 256 ^ l.length := by
  have := big_lt l 0
  simpa [bigN] using this
/-- The number of so many bytes, and what follows; else which error. -/
def numF (n k : Int) : List UInt8 := numB (min (max k 0) 8).toNat n.toNat
def takeF (s : List UInt8) (k : Int) : Int × List UInt8 × Int :=
  bif bif decide (k < 0) then true else decide (k > 8) then (0, [], 1) else bif decide ((s.length : Int) < k) then (0, [], 2) else ((bigN (s.take k.toNat) : Int), s.drop k.toNat, 0)

theorem u8_toNat_lt (b : UInt8) : (b.toNat : Int) < 256 := by have := b.toNat_lt; omega

theorem take_step {s : List UInt8} {i : Int} (h0 : 0 ≤ i) (hi : i < s.length) (h7 : i < 8) :
    bitsOp .or .u64 (IntKind.u64.wrap ((bigN (s.take i.toNat) : Int) * 256)) (IntKind.u64.wrap ((s.getD i.toNat 0).toNat : Int)) = (bigN (s.take (i + 1).toNat) : Int) := by
  have hlt := bigN_lt (s.take i.toNat)
  have hlen : (s.take i.toNat).length = i.toNat := by rw [List.length_take]; omega
  rw [hlen] at hlt
  have hp : (256 : Nat) ^ i.toNat ≤ 256 ^ 7 := Nat.pow_le_pow_right (by omega) (by omega)
  have hb := u8_toNat_lt (s.getD i.toNat 0)
  have hn : s.take (i + 1).toNat = s.take i.toNat ++ [s.getD i.toNat 0] := by
    rw [show (i + 1).toNat = i.toNat + 1 by omega, List.take_add_one]
    simp [List.getD, show i.toNat < s.length by omega]
  generalize s.getD i.toNat 0 = b at *
  rw [hn, bigN_snoc]
  generalize bigN (s.take i.toNat) = n at *
  have h7' : (256 : Nat) ^ 7 = 72057594037927936 := by decide
  rw [u64_id (by omega) (by omega), u64_id (by omega) (by omega)]
  have hor : (n * 256) ||| b.toNat = n * 256 + b.toNat := by
    have := Nat.two_pow_add_eq_or_of_lt (i := 8) (b := b.toNat) b.toNat_lt n
    rw [show (2 : Nat) ^ 8 = 256 by decide] at this
    rw [Nat.mul_comm n 256, this]
  rw [or_nat (by omega) (by show (n : Int) * 256 < 18446744073709551616; omega) (by omega) (by show (b.toNat : Int) < 18446744073709551616; omega)]
  · rw [show ((n : Int) * 256).toNat = n * 256 by omega, show ((b.toNat : Int)).toNat = b.toNat by omega, hor]
  · rw [show ((n : Int) * 256).toNat = n * 256 by omega, show ((b.toNat : Int)).toNat = b.toNat by omega, hor, has_u64]
    omega

/-- The row that a number's bytes fill. -/
def numI (k n : Nat) : List Int := (numB k n).map fun b => (b.toNat : Int)
theorem numI_len (k n : Nat) : (numI k n).length = k := by simp [numI, numB_len]
theorem numI_succ (k n : Nat) : numI (k + 1) n = numI k (n / 256) ++ [((n % 256 : Nat) : Int)] := by simp [numI, numB]
theorem bytesToStr_map (l : List UInt8) : bytesToStr (l.map fun b => (b.toNat : Int)) = l := by
  unfold bytesToStr
  rw [List.map_map]
  have : ((fun n : Int => UInt8.ofNat n.toNat) ∘ fun b : UInt8 => (b.toNat : Int)) = id := by
    funext b
    simp
  rw [this, List.map_id]
theorem bytesToStr_numI (k n : Nat) : bytesToStr (numI k n) = numB k n := bytesToStr_map _
theorem low_byte {n : Int} (h0 : 0 ≤ n) (h1 : n < 18446744073709551616) : IntKind.u8.wrap (bitsOp .and .u64 n 255) = ((n.toNat % 256 : Nat) : Int) := by
  have hand : n.toNat &&& 255 = n.toNat % 256 := Nat.and_two_pow_sub_one_eq_mod n.toNat 8
  have e : ((255 : Int)).toNat = 255 := rfl
  rw [and_nat h0 (by show n < 18446744073709551616; exact h1) (by omega) (by show (255 : Int) < 18446744073709551616; omega)]
  · rw [e, hand, u8_id (by omega) (by omega)]
  · rw [e, hand, has_u64]; omega
theorem num_fill {n i : Int} {out : List Int} (h0 : 0 ≤ n) (h1 : n < 18446744073709551616) (hi : 0 ≤ i) (hl : i < out.length) :
    numI i.toNat (Int.fdiv n 256).toNat ++ (out.set i.toNat (IntKind.u8.wrap (bitsOp .and .u64 n 255))).drop i.toNat = numI (i + 1).toNat n.toNat ++ out.drop (i + 1).toNat := by
  rw [low_byte h0 h1, show (i + 1).toNat = i.toNat + 1 by omega, numI_succ]
  have hd : (Int.fdiv n 256).toNat = n.toNat / 256 := by
    rw [Int.fdiv_eq_ediv_of_nonneg _ (by omega)]; omega
  rw [hd, List.append_assoc, List.drop_set, if_neg (by omega), Nat.sub_self]
  congr 1
  have hlt : i.toNat < out.length := by omega
  rw [List.drop_eq_getElem_cons hlt]
  rfl

def num4 (n : Int) : List UInt8 := numB 4 n.toNat
def pairB (p : (Int × Int) × (Int × Int)) : List UInt8 := num4 p.1.1 ++ num4 p.1.2 ++ (num4 p.2.1 ++ num4 p.2.2)
def big4 (s : List UInt8) : Int := (bigN (s.take 4) : Nat)
def readF (s : List UInt8) : ((Int × Int) × (Int × Int)) × List UInt8 × Int :=
  bif decide ((s.length : Int) < 16) then (((0, 0), (0, 0)), [], 2) else (((big4 s, big4 (s.drop 4)), (big4 (s.drop 8), big4 (s.drop 12))), s.drop 16, 0)

theorem numF4 (n : Int) : numF n 4 = num4 n := rfl
theorem num4_len (n : Int) : (num4 n).length = 4 := numB_len 4 _
theorem takeF4 {s : List UInt8} (h : 4 ≤ s.length) : takeF s 4 = (big4 s, s.drop 4, 0) := by
  have h1 : decide ((s.length : Int) < 4) = false := by simp; omega
  unfold takeF
  rw [h1]
  rfl
theorem big4_lt (s : List UInt8) : 0 ≤ big4 s ∧ big4 s ≤ 4294967295 := by
  unfold big4
  have := bigN_lt (s.take 4)
  have h : (256 : Nat) ^ (s.take 4).length ≤ 256 ^ 4 := Nat.pow_le_pow_right (by omega) (by simp; omega)
  have h' : (256 : Nat) ^ 4 = 4294967296 := by decide
  omega
theorem big4_u32 (s : List UInt8) : IntKind.u32.wrap (big4 s) = big4 s := u32_id (big4_lt s).1 (big4_lt s).2
end Go.Ev
/- The functions of 'epoch' and 'pack' keep their contracts. -/
set_option linter.unusedVariables false
set_option linter.unusedSimpArgs false
namespace Go.Ev.P
open Go.Proofs

def newerC : Ctr := { args := [gE, gE], res := [.bool], pre := none, fn := fun (x : (Int × Int) × (Int × Int)) => newerF x.1 x.2 }
def nextC : Ctr := { args := [gE], res := [gE, .int .i64], pre := none, fn := fun (x : Int × Int) => nextF x }
def rebootC : Ctr := { args := [gE], res := [gE, .int .i64], pre := none, fn := fun (x : Int × Int) => rebootF x }
def noneC : Ctr := { args := [gE], res := [.bool], pre := none, fn := fun (x : Int × Int) => noneF x }
def swapC : Ctr := { args := [gPair], res := [gPair], pre := none, fn := fun (x : (Int × Int) × (Int × Int)) => swapF x }
def sameC : Ctr := { args := [gPair, gPair], res := [.bool], pre := none, fn := fun (x : ((Int × Int) × (Int × Int)) × ((Int × Int) × (Int × Int))) => sameF x.1 x.2 }

theorem newer_tree : (fun x : dens newerC.args => evFn (mkC tys [] []) (fnOf Try.prog 23) (resL newerC.args x) newerC.res) =
  (fun x => Tree.br (x.1.1 != x.2.1) (Tree.leaf (decide (x.1.1 > x.2.1))) (Tree.leaf (decide (x.1.2 > x.2.2)))) := by kernel_rfl
theorem newer_ok : CtrOK Try.prog 23 newerC :=
  fun_ok (G := []) (Λ := []) tysOK ctrs_nil mixed (by kernel_rfl) (by kernel_rfl) (by kernel_rfl) (by kernel_rfl) (by simp) fun x _ _ => by
    rw [congrFun newer_tree x]
    simp only [Tree.holds, newerC, newerF]
    exact ⟨fun h => by rw [h]; rfl, fun h => by rw [h]; rfl⟩
theorem next_tree : (fun x : dens nextC.args => evFn (mkC tys [] []) (fnOf Try.prog 24) (resL nextC.args x) nextC.res) =
  (fun x => Tree.br (x.2 == (4294967295 : Int)) (Tree.leaf (((0 : Int), (0 : Int)), (11 : Int))) (Tree.leaf ((x.1, IntKind.wrap IntKind.u32 (x.2 + (1 : Int))), (0 : Int)))) := by kernel_rfl
theorem next_ok : CtrOK Try.prog 24 nextC :=
  fun_ok (G := []) (Λ := []) tysOK ctrs_nil mixed (by kernel_rfl) (by kernel_rfl) (by kernel_rfl) (by kernel_rfl) (by simp) fun (x : Int × Int) hw _ => by
    rw [congrFun next_tree x]
    simp only [Tree.holds, nextC, nextF]
    refine ⟨fun h => by rw [h]; rfl, fun h => ?_⟩
    have h2 : IntKind.u32.has x.2 := hw.2
    rw [has_u32] at h2
    have h3 : x.2 ≠ 4294967295 := by simpa using h
    rw [h, u32_id (by omega) (by omega)]
    rfl
theorem reboot_tree : (fun x : dens rebootC.args => evFn (mkC tys [] []) (fnOf Try.prog 25) (resL rebootC.args x) rebootC.res) =
  (fun x => Tree.br (x.1 == (4294967295 : Int)) (Tree.leaf (((0 : Int), (0 : Int)), (11 : Int))) (Tree.leaf ((IntKind.wrap IntKind.u32 (x.1 + (1 : Int)), (0 : Int)), (0 : Int)))) := by kernel_rfl
theorem reboot_ok : CtrOK Try.prog 25 rebootC :=
  fun_ok (G := []) (Λ := []) tysOK ctrs_nil mixed (by kernel_rfl) (by kernel_rfl) (by kernel_rfl) (by kernel_rfl) (by simp) fun (x : Int × Int) hw _ => by
    rw [congrFun reboot_tree x]
    simp only [Tree.holds, rebootC, rebootF]
    refine ⟨fun h => by rw [h]; rfl, fun h => ?_⟩
    have h2 : IntKind.u32.has x.1 := hw.1
    rw [has_u32] at h2
    have h3 : x.1 ≠ 4294967295 := by simpa using h
    rw [h, u32_id (by omega) (by omega)]
    rfl
theorem none_tree : (fun x : dens noneC.args => evFn (mkC tys [] []) (fnOf Try.prog 29) (resL noneC.args x) noneC.res) =
  (fun x => Tree.leaf (geq (GTy.prod (GTy.int IntKind.u32) (GTy.int IntKind.u32)) x ((0 : Int), (0 : Int)))) := by kernel_rfl
theorem none_ok : CtrOK Try.prog 29 noneC :=
  fun_ok (G := []) (Λ := []) tysOK ctrs_nil mixed (by kernel_rfl) (by kernel_rfl) (by kernel_rfl) (by kernel_rfl) (by simp) fun x hw _ => by
    rw [congrFun none_tree x]
    rfl
theorem swap_tree : (fun x : dens swapC.args => evFn (mkC tys [] []) (fnOf Try.prog 30) (resL swapC.args x) swapC.res) =
  (fun x => Tree.leaf (x.2, x.1)) := by kernel_rfl
theorem swap_ok : CtrOK Try.prog 30 swapC :=
  fun_ok (G := []) (Λ := []) tysOK ctrs_nil mixed (by kernel_rfl) (by kernel_rfl) (by kernel_rfl) (by kernel_rfl) (by simp) fun x hw _ => by
    rw [congrFun swap_tree x]
    rfl
theorem same_tree : (fun x : dens sameC.args => evFn (mkC tys [(29, noneC), (30, swapC)] []) (fnOf Try.prog 31) (resL sameC.args x) sameC.res) =
  (fun x =>
    Tree.leaf
      (bif bif geq (GTy.prod (GTy.prod (GTy.int IntKind.u32) (GTy.int IntKind.u32)) (GTy.prod (GTy.int IntKind.u32) (GTy.int IntKind.u32))) x.1 (swapF x.2) then !noneF x.1.1 else false then !noneF x.1.2
      else false)) := by kernel_rfl
theorem same_ok : CtrOK Try.prog 31 sameC :=
  fun_ok (Λ := []) tysOK (ctrs_cons none_ok (ctrs_cons swap_ok ctrs_nil)) mixed (by kernel_rfl) (by kernel_rfl) (by kernel_rfl) (by kernel_rfl) (by simp) fun x hw _ => by
    rw [congrFun same_tree x]
    simp only [Tree.holds, sameC, sameF]
    cases geq gPair x.1 (swapF x.2) <;> cases noneF x.1.1 <;> rfl
end Go.Ev.P
/- The functions of 'pack' keep their contracts. -/
set_option linter.unusedVariables false
set_option linter.unusedSimpArgs false
namespace Go.Ev.P
open Go.Proofs

def takeC : Ctr := { args := [.str, .int .i64], res := [.int .u64, .str, .int .i64], pre := none, fn := fun (x : List UInt8 × Int) => takeF x.1 x.2 }
def takeD : LoopD where
  prom := []
  ts := [(0, .val .str), (7, .val (.int .u64)), (19, .val (.int .i64)), (20, .val (.int .i64))]
  bs := []
  pre := fun (x : (List UInt8 × Int × Int × Int × Unit) × Unit) => 0 ≤ x.1.2.2.2.1 ∧ x.1.2.2.2.1 ≤ x.1.2.2.1 ∧ x.1.2.2.1 ≤ x.1.1.length ∧ x.1.2.2.1 ≤ 8 ∧ x.1.2.1 = bigN (x.1.1.take x.1.2.2.2.1.toNat)
  out := fun (x : (List UInt8 × Int × Int × Int × Unit) × Unit) => .leaf (.exit 0, ((x.1.1, (bigN (x.1.1.take x.1.2.2.1.toNat) : Int), x.1.2.2.1, x.1.2.2.1, ()), ()))
theorem take_round : (fun x : (List UInt8 × Int × Int × Int × Unit) × Unit => roundOf (mkC tys [] [(0, takeD.spec)]) takeD (loopB 0 (bodyOf (fnOf Try.prog 71))) x) =
  (fun x =>
    Tree.br (decide (x.1.2.2.2.1 < x.1.2.2.1))
      (Tree.need ((0 : Int) ≤ x.1.2.2.2.1 ∧ x.1.2.2.2.1 < (↑(List.length x.1.1) : Int))
        (Tree.leaf
          (Ex.normal,
            some
              ((x.1.1,
                  bitsOp BinOp.or IntKind.u64 (IntKind.wrap IntKind.u64 (x.1.2.1 * (256 : Int))) (IntKind.wrap IntKind.u64 (↑(UInt8.toNat (List.getD x.1.1 (Int.toNat x.1.2.2.2.1) (0 : UInt8))) : Int)),
                  x.1.2.2.1, IntKind.wrap IntKind.i64 (x.1.2.2.2.1 + (1 : Int)), ()),
                ()))))
      (Tree.leaf (Ex.exit (0 : Nat), some ((x.1.1, x.1.2.1, x.1.2.2.1, x.1.2.2.2.1, ()), ())))) := by kernel_rfl
theorem take_loop : LoopOK (mkC tys [] [(0, takeD.spec)]) takeD.spec (loopB 0 (bodyOf (fnOf Try.prog 71))) :=
  loopD_ok1 (fun _ => rfl) (fun x => congrFun take_round x) (fun (x : (List UInt8 × Int × Int × Int × Unit) × Unit) => (x.1.2.2.1 - x.1.2.2.2.1).toNat) fun (x : (List UInt8 × Int × Int × Int × Unit) × Unit) hp => by
    obtain ⟨⟨s, n, m, i, ⟨⟩⟩, ⟨⟩⟩ := x
    obtain ⟨h1, h2, h3, h4, h5⟩ := hp
    simp only at h1 h2 h3 h4 h5
    subst h5
    simp only [Tree.holds]
    refine ⟨fun h => ?_, fun h => ?_⟩
    · have h' : i < m := by simpa using h
      have e : IntKind.i64.wrap (i + 1) = i + 1 := i64_id (by omega) (by omega)
      refine ⟨⟨h1, by omega⟩, _, rfl, ⟨?_, ?_, h3, h4, ?_⟩, ?_, rfl⟩
      · show 0 ≤ IntKind.i64.wrap (i + 1); omega
      · show IntKind.i64.wrap (i + 1) ≤ m; omega
      · show _ = ((bigN (s.take (IntKind.i64.wrap (i + 1)).toNat) : Nat) : Int)
        rw [e]
        exact take_step h1 (by omega) (by omega)
      · show (m - IntKind.i64.wrap (i + 1)).toNat < (m - i).toNat; omega
    · have h' : ¬ i < m := by simpa using h
      have hm : i = m := by omega
      subst hm
      exact ⟨_, rfl, rfl⟩
theorem take_tree : (fun x : List UInt8 × Int => evFn (mkC tys [] [(0, takeD.spec)]) (fnOf Try.prog 71) (resL takeC.args x) takeC.res) =
  (fun x =>
    Tree.br (bif decide (x.2 < (0 : Int)) then true else decide (x.2 > (8 : Int))) (Tree.leaf ((0 : Int), [], (1 : Int)))
      (Tree.br (decide ((↑(List.length x.1) : Int) < x.2)) (Tree.leaf ((0 : Int), [], (2 : Int)))
        (Tree.need ((0 : Int) ≤ (0 : Int) ∧ (0 : Int) ≤ x.2 ∧ x.2 ≤ (↑(List.length x.1) : Int) ∧ x.2 ≤ (8 : Int) ∧ (0 : Int) = (↑(bigN (List.take (Int.toNat (0 : Int)) x.1)) : Int))
          (Tree.need ((0 : Int) ≤ x.2 ∧ x.2 ≤ (↑(List.length x.1) : Int)) (Tree.leaf ((↑(bigN (List.take (Int.toNat x.2) x.1)) : Int), List.drop (Int.toNat x.2) x.1, (0 : Int))))))) := by kernel_rfl
theorem take_ok : CtrOK Try.prog 71 takeC :=
  fun_ok tysOK ctrs_nil mixed (by kernel_rfl) (by kernel_rfl) (by kernel_rfl) (by kernel_rfl) (lp_cons take_loop lp_nil) fun (x : List UInt8 × Int) hw _ => by
    rw [congrFun take_tree x]
    obtain ⟨s, k⟩ := x
    simp only [Tree.holds, takeC, takeF]
    refine ⟨fun h => by rw [h]; rfl, fun h => ⟨fun h' => by rw [h, h']; rfl, fun h' => ?_⟩⟩
    have h1 : 0 ≤ k ∧ k ≤ 8 := by
      cases hc : decide (k < 0) with
      | true => rw [hc] at h; cases h
      | false => rw [hc] at h; simp at h hc; omega
    have h2 : k ≤ s.length := by simpa using h'
    exact ⟨⟨by omega, h1.1, h2, h1.2, rfl⟩, ⟨h1.1, h2⟩, by rw [h, h']; rfl⟩
def numC : Ctr := { args := [.int .u64, .int .i64], res := [.str], pre := none, fn := fun (x : Int × Int) => numF x.1 x.2 }
def numD : LoopD where
  prom := []
  ts := [(0, .val (.int .u64)), (5, .tip 11), (6, .val (.int .i64))]
  bs := [(11, .row 5 (.int .u8) false)]
  pre := fun (x : (Int × Int × Unit) × List Int × Unit) => 0 ≤ x.1.1 ∧ x.1.1 < 18446744073709551616 ∧ -1 ≤ x.1.2.1 ∧ x.1.2.1 < x.2.1.length ∧ x.2.1.length ≤ 8
  out := fun (x : (Int × Int × Unit) × List Int × Unit) =>   .leaf (.exit 0, (((x.1.1.toNat / 256 ^ (x.1.2.1 + 1).toNat : Nat), -1, ()), numI (x.1.2.1 + 1).toNat x.1.1.toNat ++ x.2.1.drop (x.1.2.1 + 1).toNat, ()))
theorem num_round : (fun x : (Int × Int × Unit) × List Int × Unit => roundOf (mkC tys [] [(0, numD.spec)]) numD (loopB 0 (bodyOf (fnOf Try.prog 72))) x) =
  (fun x =>
    Tree.br (decide (x.1.2.1 ≥ (0 : Int)))
      (Tree.need ((0 : Int) ≤ x.1.2.1 ∧ x.1.2.1 < (↑(List.length x.2.1) : Int))
        (Tree.leaf
          (Ex.normal,
            some
              ((Int.fdiv x.1.1 (256 : Int), IntKind.wrap IntKind.i64 (x.1.2.1 - (1 : Int)), ()),
                List.set x.2.1 (Int.toNat x.1.2.1) (IntKind.wrap IntKind.u8 (bitsOp BinOp.and IntKind.u64 x.1.1 (255 : Int))), ()))))
      (Tree.leaf (Ex.exit (0 : Nat), some ((x.1.1, x.1.2.1, ()), x.2.1, ())))) := by kernel_rfl
theorem num_loop : LoopOK (mkC tys [] [(0, numD.spec)]) numD.spec (loopB 0 (bodyOf (fnOf Try.prog 72))) :=
  loopD_ok1 (fun _ => rfl) (fun x => congrFun num_round x) (fun (x : (Int × Int × Unit) × List Int × Unit) => (x.1.2.1 + 1).toNat) fun (x : (Int × Int × Unit) × List Int × Unit) hp => by
    obtain ⟨⟨n, i, ⟨⟩⟩, out, ⟨⟩⟩ := x
    obtain ⟨h1, h2, h3, h4, h5⟩ := hp
    simp only at h1 h2 h3 h4 h5
    simp only [Tree.holds]
    refine ⟨fun h => ?_, fun h => ?_⟩
    · have h' : 0 ≤ i := by simpa using h
      have e : IntKind.i64.wrap (i - 1) = i - 1 := i64_id (by omega) (by omega)
      have hd : Int.fdiv n 256 = n / 256 := by
        rw [Int.fdiv_eq_ediv_of_nonneg _ (by omega)]
      refine ⟨⟨h', h4⟩, _, rfl, ⟨?_, ?_, ?_, ?_, ?_⟩, ?_, ?_⟩
      · show 0 ≤ Int.fdiv n 256; omega
      · show Int.fdiv n 256 < 18446744073709551616; omega
      · show -1 ≤ IntKind.i64.wrap (i - 1); omega
      · show IntKind.i64.wrap (i - 1) < ((List.set out i.toNat _).length : Int)
        rw [List.length_set]; omega
      · show (List.set out i.toNat _).length ≤ 8
        rw [List.length_set]; exact h5
      · show (IntKind.i64.wrap (i - 1) + 1).toNat < (i + 1).toNat; omega
      · show (Ex.exit 0, (((((Int.fdiv n 256).toNat / 256 ^ (IntKind.i64.wrap (i - 1) + 1).toNat : Nat) : Int), (-1 : Int), ()), numI (IntKind.i64.wrap (i - 1) + 1).toNat _ ++ List.drop (IntKind.i64.wrap (i - 1) + 1).toNat _, ())) = _
        rw [e, show i - 1 + 1 = i by omega, num_fill h1 h2 h' h4, hd, show (n / 256).toNat = n.toNat / 256 by omega, Nat.div_div_eq_div_mul, Nat.mul_comm, ← Nat.pow_succ, show i.toNat.succ = (i + 1).toNat by omega]
    · have h' : i < 0 := by simpa using h
      have hi : i = -1 := by omega
      subst hi
      refine ⟨_, rfl, ?_⟩
      show (Ex.exit 0, ((((n.toNat / 256 ^ 0 : Nat) : Int), (-1 : Int), ()), numI 0 n.toNat ++ List.drop 0 out, ())) = (Ex.exit 0, ((n, (-1 : Int), ()), out, ()))
      rw [Nat.pow_zero, Nat.div_one, List.drop_zero, show ((n.toNat : Nat) : Int) = n by omega]
      rfl
theorem num_tree : (fun x : Int × Int => evFn (mkC tys [] [(0, numD.spec)]) (fnOf Try.prog 72) (resL numC.args x) numC.res) =
  (fun x =>
    Tree.need
      (((0 : Int) ≤ if (8 : Int) < if x.2 < (0 : Int) then (0 : Int) else x.2 then (8 : Int) else if x.2 < (0 : Int) then (0 : Int) else x.2) ∧
        ((if (8 : Int) < if x.2 < (0 : Int) then (0 : Int) else x.2 then (8 : Int) else if x.2 < (0 : Int) then (0 : Int) else x.2) ≤
            if (8 : Int) < if x.2 < (0 : Int) then (0 : Int) else x.2 then (8 : Int) else if x.2 < (0 : Int) then (0 : Int) else x.2) ∧
          (if (8 : Int) < if x.2 < (0 : Int) then (0 : Int) else x.2 then (8 : Int) else if x.2 < (0 : Int) then (0 : Int) else x.2) * (1 : Int) ≤ (140737488355328 : Int))
      (Tree.need
        ((0 : Int) ≤ x.1 ∧
          x.1 < (18446744073709551616 : Int) ∧
            (-1 : Int) ≤ IntKind.wrap IntKind.i64 ((if (8 : Int) < if x.2 < (0 : Int) then (0 : Int) else x.2 then (8 : Int) else if x.2 < (0 : Int) then (0 : Int) else x.2) - (1 : Int)) ∧
              IntKind.wrap IntKind.i64 ((if (8 : Int) < if x.2 < (0 : Int) then (0 : Int) else x.2 then (8 : Int) else if x.2 < (0 : Int) then (0 : Int) else x.2) - (1 : Int)) <
                  (↑(List.length (List.replicate (Int.toNat (if (8 : Int) < if x.2 < (0 : Int) then (0 : Int) else x.2 then (8 : Int) else if x.2 < (0 : Int) then (0 : Int) else x.2)) (0 : Int))) :
                    Int) ∧
                List.length (List.replicate (Int.toNat (if (8 : Int) < if x.2 < (0 : Int) then (0 : Int) else x.2 then (8 : Int) else if x.2 < (0 : Int) then (0 : Int) else x.2)) (0 : Int)) ≤ (8 : Nat))
        (Tree.leaf
          (bytesToStr
            (numI
                (Int.toNat
                  (IntKind.wrap IntKind.i64 ((if (8 : Int) < if x.2 < (0 : Int) then (0 : Int) else x.2 then (8 : Int) else if x.2 < (0 : Int) then (0 : Int) else x.2) - (1 : Int)) + (1 : Int)))
                (Int.toNat x.1) ++
              List.drop
                (Int.toNat
                  (IntKind.wrap IntKind.i64 ((if (8 : Int) < if x.2 < (0 : Int) then (0 : Int) else x.2 then (8 : Int) else if x.2 < (0 : Int) then (0 : Int) else x.2) - (1 : Int)) + (1 : Int)))
                (List.replicate (Int.toNat (if (8 : Int) < if x.2 < (0 : Int) then (0 : Int) else x.2 then (8 : Int) else if x.2 < (0 : Int) then (0 : Int) else x.2)) (0 : Int))))))) := by kernel_rfl
theorem num_ok : CtrOK Try.prog 72 numC :=
  fun_ok tysOK ctrs_nil mixed (by kernel_rfl) (by kernel_rfl) (by kernel_rfl) (by kernel_rfl) (lp_cons num_loop lp_nil) fun (x : Int × Int) hw _ => by
    rw [congrFun num_tree x]
    obtain ⟨n, k⟩ := x
    have h1 : IntKind.u64.has n := hw.1
    rw [has_u64] at h1
    have hk : (if (8 : Int) < if k < 0 then 0 else k then 8 else if k < 0 then 0 else k) = min (max k 0) 8 := by
      by_cases h : k < 0
      · simp only [h, if_true]; rw [if_neg (by omega)]; omega
      · simp only [h, if_false]
        by_cases h8 : 8 < k
        · rw [if_pos h8]; omega
        · rw [if_neg h8]; omega
    simp only [Tree.holds]
    rw [hk]
    have hm : 0 ≤ min (max k 0) 8 ∧ min (max k 0) 8 ≤ 8 := by omega
    simp only [numC, numF]
    generalize min (max k 0) 8 = m at *
    have e : IntKind.i64.wrap (m - 1) = m - 1 := i64_id (by omega) (by omega)
    rw [e, List.length_replicate, show m - 1 + 1 = m by omega]
    refine ⟨⟨hm.1, Int.le_refl _, ?_⟩, ⟨h1.1, by omega, by omega, by omega, by omega⟩, ?_⟩
    · omega
    · rw [List.drop_replicate, Nat.sub_self, List.replicate_zero, List.append_nil, bytesToStr_numI]
end Go.Ev.P
/- 'epoch.Bytes' and 'epoch.Read' keep their contracts. -/
set_option linter.unusedVariables false
set_option linter.unusedSimpArgs false
namespace Go.Ev.P
open Go.Proofs

def bytesC : Ctr := { args := [gPair], res := [.str], pre := none, fn := fun (x : (Int × Int) × (Int × Int)) => pairB x }
def bytesG : List (Nat × Ctr) := [(72, numC)]
noncomputable def bytesL : List (Nat × LoopSpec) := [(0, rounds (mkC tys bytesG []) (loopB 0 (bodyOf (fnOf Try.prog 28))) [] [3, 10, 11] [] 3)]
theorem bytes_tree : (fun x : (Int × Int) × (Int × Int) => evFn (mkC tys bytesG bytesL) (fnOf Try.prog 28) (resL bytesC.args x) bytesC.res) =
  (fun x =>
    Tree.br true
      (Tree.need ((0 : Int) ≤ (0 : Int) ∧ (0 : Int) < (2 : Int))
        (Tree.need (List.length (numF (IntKind.wrap IntKind.u64 x.1.1) (4 : Int)) + List.length (numF (IntKind.wrap IntKind.u64 x.1.2) (4 : Int)) ≤ (4611686018427387904 : Nat))
          (Tree.need ((0 : Nat) + List.length (numF (IntKind.wrap IntKind.u64 x.1.1) (4 : Int) ++ numF (IntKind.wrap IntKind.u64 x.1.2) (4 : Int)) ≤ (4611686018427387904 : Nat))
            (Tree.br true
              (Tree.need ((0 : Int) ≤ (1 : Int) ∧ (1 : Int) < (2 : Int))
                (Tree.need (List.length (numF (IntKind.wrap IntKind.u64 x.2.1) (4 : Int)) + List.length (numF (IntKind.wrap IntKind.u64 x.2.2) (4 : Int)) ≤ (4611686018427387904 : Nat))
                  (Tree.need
                    (List.length ([] ++ (numF (IntKind.wrap IntKind.u64 x.1.1) (4 : Int) ++ numF (IntKind.wrap IntKind.u64 x.1.2) (4 : Int))) +
                        List.length (numF (IntKind.wrap IntKind.u64 x.2.1) (4 : Int) ++ numF (IntKind.wrap IntKind.u64 x.2.2) (4 : Int)) ≤
                      (4611686018427387904 : Nat))
                    (Tree.br false
                      (Tree.need ((0 : Int) ≤ (2 : Int) ∧ (2 : Int) < (2 : Int))
                        (Tree.need
                          (List.length (numF (IntKind.wrap IntKind.u64 (List.getD [x.1, x.2] (2 : Nat) ((0 : Int), (0 : Int))).1) (4 : Int)) +
                              List.length (numF (IntKind.wrap IntKind.u64 (List.getD [x.1, x.2] (2 : Nat) ((0 : Int), (0 : Int))).2) (4 : Int)) ≤
                            (4611686018427387904 : Nat))
                          (Tree.need
                            (List.length
                                  ([] ++ (numF (IntKind.wrap IntKind.u64 x.1.1) (4 : Int) ++ numF (IntKind.wrap IntKind.u64 x.1.2) (4 : Int)) ++
                                    (numF (IntKind.wrap IntKind.u64 x.2.1) (4 : Int) ++ numF (IntKind.wrap IntKind.u64 x.2.2) (4 : Int))) +
                                List.length
                                  (numF (IntKind.wrap IntKind.u64 (List.getD [x.1, x.2] (2 : Nat) ((0 : Int), (0 : Int))).1) (4 : Int) ++
                                    numF (IntKind.wrap IntKind.u64 (List.getD [x.1, x.2] (2 : Nat) ((0 : Int), (0 : Int))).2) (4 : Int)) ≤
                              (4611686018427387904 : Nat))
                            Tree.stuck)))
                      (Tree.leaf
                        ([] ++ (numF (IntKind.wrap IntKind.u64 x.1.1) (4 : Int) ++ numF (IntKind.wrap IntKind.u64 x.1.2) (4 : Int)) ++
                          (numF (IntKind.wrap IntKind.u64 x.2.1) (4 : Int) ++ numF (IntKind.wrap IntKind.u64 x.2.2) (4 : Int))))))))
              (Tree.leaf ([] ++ (numF (IntKind.wrap IntKind.u64 x.1.1) (4 : Int) ++ numF (IntKind.wrap IntKind.u64 x.1.2) (4 : Int))))))))
      (Tree.leaf [])) := by kernel_rfl
theorem bytes_ok : CtrOK Try.prog 28 bytesC :=
  fun_ok (G := bytesG) (Λ := bytesL) tysOK (ctrs_cons num_ok ctrs_nil) mixed (by kernel_rfl) (by kernel_rfl) (by kernel_rfl) (by kernel_rfl) (lp_cons (rounds_ok0 rfl rfl rfl (by kernel_rfl)) lp_nil) fun (x : (Int × Int) × (Int × Int)) hw _ => by
    rw [congrFun bytes_tree x]
    obtain ⟨⟨a, b⟩, ⟨c, d⟩⟩ := x
    obtain ⟨⟨ha, hb⟩, ⟨hc, hd⟩⟩ := hw
    simp only [wt, has_u32] at ha hb hc hd
    have ea : IntKind.u64.wrap a = a := u64_id (by omega) (by omega)
    have eb : IntKind.u64.wrap b = b := u64_id (by omega) (by omega)
    have ec : IntKind.u64.wrap c = c := u64_id (by omega) (by omega)
    have ed : IntKind.u64.wrap d = d := u64_id (by omega) (by omega)
    simp [Tree.holds, ea, eb, ec, ed, numF4, num4_len, bytesC, pairB]

def readC : Ctr := { args := [.str], res := [gPair, .str, .int .i64], pre := none, fn := fun (x : List UInt8) => readF x }
def readG : List (Nat × Ctr) := [(71, takeC)]
noncomputable def readL : List (Nat × LoopSpec) := [(0, rounds (mkC tys readG []) (loopB 0 (bodyOf (fnOf Try.prog 27))) [] [0, 2, 3, 4, 5, 16] [2, 5] 5)]
theorem read_tree : (fun x : List UInt8 => evFn (mkC tys readG readL) (fnOf Try.prog 27) (resL readC.args x) readC.res) =
  (fun x =>
    Tree.br (decide ((↑(List.length x) : Int) < (16 : Int))) (Tree.leaf ((((0 : Int), (0 : Int)), (0 : Int), (0 : Int)), [], (2 : Int)))
      (Tree.br true
        (Tree.br ((takeF x (4 : Int)).2.2 != (0 : Int)) (Tree.leaf ((((0 : Int), (0 : Int)), (0 : Int), (0 : Int)), [], (takeF x (4 : Int)).2.2))
          (Tree.need ((0 : Int) ≤ (0 : Int) ∧ (0 : Int) < (4 : Int))
            (Tree.br true
              (Tree.br ((takeF (takeF x (4 : Int)).2.1 (4 : Int)).2.2 != (0 : Int)) (Tree.leaf ((((0 : Int), (0 : Int)), (0 : Int), (0 : Int)), [], (takeF (takeF x (4 : Int)).2.1 (4 : Int)).2.2))
                (Tree.need ((0 : Int) ≤ (1 : Int) ∧ (1 : Int) < (4 : Int))
                  (Tree.br true
                    (Tree.br ((takeF (takeF (takeF x (4 : Int)).2.1 (4 : Int)).2.1 (4 : Int)).2.2 != (0 : Int))
                      (Tree.leaf ((((0 : Int), (0 : Int)), (0 : Int), (0 : Int)), [], (takeF (takeF (takeF x (4 : Int)).2.1 (4 : Int)).2.1 (4 : Int)).2.2))
                      (Tree.need ((0 : Int) ≤ (2 : Int) ∧ (2 : Int) < (4 : Int))
                        (Tree.br true
                          (Tree.br ((takeF (takeF (takeF (takeF x (4 : Int)).2.1 (4 : Int)).2.1 (4 : Int)).2.1 (4 : Int)).2.2 != (0 : Int))
                            (Tree.leaf ((((0 : Int), (0 : Int)), (0 : Int), (0 : Int)), [], (takeF (takeF (takeF (takeF x (4 : Int)).2.1 (4 : Int)).2.1 (4 : Int)).2.1 (4 : Int)).2.2))
                            (Tree.need ((0 : Int) ≤ (3 : Int) ∧ (3 : Int) < (4 : Int))
                              (Tree.br false
                                (Tree.br ((takeF (takeF (takeF (takeF (takeF x (4 : Int)).2.1 (4 : Int)).2.1 (4 : Int)).2.1 (4 : Int)).2.1 (4 : Int)).2.2 != (0 : Int))
                                  (Tree.leaf
                                    ((((0 : Int), (0 : Int)), (0 : Int), (0 : Int)), [], (takeF (takeF (takeF (takeF (takeF x (4 : Int)).2.1 (4 : Int)).2.1 (4 : Int)).2.1 (4 : Int)).2.1 (4 : Int)).2.2))
                                  (Tree.need ((0 : Int) ≤ (4 : Int) ∧ (4 : Int) < (4 : Int)) Tree.stuck))
                                (Tree.leaf
                                  (((IntKind.wrap IntKind.u32 (takeF x (4 : Int)).1, IntKind.wrap IntKind.u32 (takeF (takeF x (4 : Int)).2.1 (4 : Int)).1),
                                      IntKind.wrap IntKind.u32 (takeF (takeF (takeF x (4 : Int)).2.1 (4 : Int)).2.1 (4 : Int)).1,
                                      IntKind.wrap IntKind.u32 (takeF (takeF (takeF (takeF x (4 : Int)).2.1 (4 : Int)).2.1 (4 : Int)).2.1 (4 : Int)).1),
                                    (takeF (takeF (takeF (takeF x (4 : Int)).2.1 (4 : Int)).2.1 (4 : Int)).2.1 (4 : Int)).2.1, (0 : Int))))))
                          (Tree.leaf
                            (((IntKind.wrap IntKind.u32 (takeF x (4 : Int)).1, IntKind.wrap IntKind.u32 (takeF (takeF x (4 : Int)).2.1 (4 : Int)).1),
                                IntKind.wrap IntKind.u32 (takeF (takeF (takeF x (4 : Int)).2.1 (4 : Int)).2.1 (4 : Int)).1, (0 : Int)),
                              (takeF (takeF (takeF x (4 : Int)).2.1 (4 : Int)).2.1 (4 : Int)).2.1, (0 : Int))))))
                    (Tree.leaf
                      (((IntKind.wrap IntKind.u32 (takeF x (4 : Int)).1, IntKind.wrap IntKind.u32 (takeF (takeF x (4 : Int)).2.1 (4 : Int)).1), (0 : Int), (0 : Int)),
                        (takeF (takeF x (4 : Int)).2.1 (4 : Int)).2.1, (0 : Int))))))
              (Tree.leaf (((IntKind.wrap IntKind.u32 (takeF x (4 : Int)).1, (0 : Int)), (0 : Int), (0 : Int)), (takeF x (4 : Int)).2.1, (0 : Int))))))
        (Tree.leaf ((((0 : Int), (0 : Int)), (0 : Int), (0 : Int)), x, (0 : Int))))) := by kernel_rfl
theorem read_ok : CtrOK Try.prog 27 readC :=
  fun_ok (G := readG) (Λ := readL) tysOK (ctrs_cons take_ok ctrs_nil) mixed (by kernel_rfl) (by kernel_rfl) (by kernel_rfl) (by kernel_rfl) (lp_cons (rounds_ok0 rfl rfl rfl (by kernel_rfl)) lp_nil) fun (x : List UInt8) hw _ => by
    rw [congrFun read_tree x]
    simp only [readC, readF]
    by_cases h : (x.length : Int) < 16
    · have h' : decide ((x.length : Int) < 16) = true := by simpa using h
      simp only [Tree.holds, h']
      simp
    · have h' : decide ((x.length : Int) < 16) = false := by simpa using h
      have t0 := takeF4 (s := x) (by omega)
      have t1 := takeF4 (s := x.drop 4) (by rw [List.length_drop]; omega)
      have t2 := takeF4 (s := x.drop 8) (by rw [List.length_drop]; omega)
      have t3 := takeF4 (s := x.drop 12) (by rw [List.length_drop]; omega)
      simp only [List.drop_drop, Nat.reduceAdd] at t1 t2 t3
      simp [Tree.holds, h', t0, t1, t2, t3, big4_u32]
end Go.Ev.P
/- The laws of epochs, plainly. -/
set_option linter.unusedVariables false
namespace Go.Ev

theorem newerF_eq (a b : Int × Int) : newerF a b = decide (a.1 > b.1 ∨ a.1 = b.1 ∧ a.2 > b.2) := by
  unfold newerF
  by_cases h : a.1 = b.1
  · simp [h]
  · have : (a.1 != b.1) = true := by simpa using h
    rw [this]
    simp [h]
theorem geqE (a b : Int × Int) : geq gE a b = decide (a.1 = b.1 ∧ a.2 = b.2) := by
  simp [geq, Bool.decide_and]
  rfl
theorem geqB (x y : Bool) : geq .bool x y = (x == y) := rfl
theorem order_no (a b c : Int × Int) :
    (bif bif bif newerF a b then newerF b a else false then true else !geq GTy.bool (geq gE a b) (bif !newerF a b then !newerF b a else false) then true else bif bif newerF a b then newerF b c else false then !newerF a c else false) = false := by
  cases h1 : newerF a b <;> cases h2 : newerF b a <;> cases h3 : newerF b c <;> cases h4 : newerF a c <;> cases h5 : geq gE a b <;>
    first
    | rfl
    | (exfalso
       rw [newerF_eq] at h1 h2 h3 h4
       rw [geqE] at h5
       simp only [decide_eq_true_eq, decide_eq_false_iff_not] at h1 h2 h3 h4 h5
       omega)
theorem order_yes (a : Int × Int) :
    (bif bif bif bif (nextF a).2 != 0 then true else newerF (nextF a).1 a then bif (rebootF a).2 != 0 then true else newerF (rebootF a).1 a else false then bif bif (nextF a).2 != 0 then true else (rebootF a).2 != 0 then true else newerF (rebootF a).1 (nextF a).1 else false then true else false) = true := by
  simp only [newerF_eq, nextF, rebootF]
  cases h1 : (a.2 == 4294967295) <;> cases h2 : (a.1 == 4294967295) <;> simp <;> omega

theorem big_num4 {n : Int} (h : 0 ≤ n ∧ n ≤ 4294967295) (l : List UInt8) : big4 (num4 n ++ l) = n := by
  unfold big4 num4
  rw [List.take_left' (numB_len 4 _), bigN_num]
  have h' : (256 : Nat) ^ 4 = 4294967296 := by decide
  omega
theorem read_pair {p : (Int × Int) × (Int × Int)} (h : wt gPair p) (s : List UInt8) : readF (pairB p ++ s) = (p, s, 0) := by
  obtain ⟨⟨a, b⟩, ⟨c, d⟩⟩ := p
  obtain ⟨⟨ha, hb⟩, ⟨hc, hd⟩⟩ := h
  simp only [wt, has_u32] at ha hb hc hd
  unfold readF pairB
  have hl : decide (((num4 a ++ num4 b ++ (num4 c ++ num4 d) ++ s).length : Int) < 16) = false := by
    simp only [List.length_append, num4_len]
    simp
    omega
  have h4 : ∀ (n : Int) (l : List UInt8), (num4 n ++ l).drop 4 = l := fun n l => List.drop_left' (num4_len n)
  have d4 : (num4 a ++ (num4 b ++ (num4 c ++ (num4 d ++ s)))).drop 4 = num4 b ++ (num4 c ++ (num4 d ++ s)) := h4 _ _
  have d8 : (num4 a ++ (num4 b ++ (num4 c ++ (num4 d ++ s)))).drop 8 = num4 c ++ (num4 d ++ s) := by
    rw [show (8 : Nat) = 4 + 4 from rfl, ← List.drop_drop, h4, h4]
  have d12 : (num4 a ++ (num4 b ++ (num4 c ++ (num4 d ++ s)))).drop 12 = num4 d ++ s := by
    rw [show (12 : Nat) = 8 + 4 from rfl, ← List.drop_drop, d8, h4]
  have d16 : (num4 a ++ (num4 b ++ (num4 c ++ (num4 d ++ s)))).drop 16 = s := by
    rw [show (16 : Nat) = 12 + 4 from rfl, ← List.drop_drop, d12, h4]
  rw [hl]
  simp only [List.append_assoc, cond_false]
  rw [d4, d8, d12, d16, big_num4 ha, big_num4 hb, big_num4 hc, big_num4 hd]
theorem geqPair (p q : (Int × Int) × (Int × Int)) : geq gPair p q = decide (p = q) := by
  obtain ⟨⟨a, b⟩, ⟨c, d⟩⟩ := p
  obtain ⟨⟨a', b'⟩, ⟨c', d'⟩⟩ := q
  simp only [geq]
  rw [Bool.eq_iff_iff]
  simp [and_assoc]
theorem pairB_len (p : (Int × Int) × (Int × Int)) : (pairB p).length = 16 := by simp [pairB, num4_len]
end Go.Ev
/- The laws of 'epoch' answer true. -/
set_option linter.unusedVariables false
set_option linter.unusedSimpArgs false
namespace Go.Ev.P
open Go.Proofs

def epochG : List (Nat × Ctr) := [(23, newerC), (24, nextC), (25, rebootC), (29, noneC), (30, swapC), (31, sameC), (28, bytesC), (27, readC)]
theorem epochG_ok : CtrsOK Try.prog (fun f => lk f epochG) := ctrs_cons newer_ok (ctrs_cons next_ok (ctrs_cons reboot_ok (ctrs_cons none_ok (ctrs_cons swap_ok (ctrs_cons same_ok (ctrs_cons bytes_ok (ctrs_cons read_ok ctrs_nil)))))))
def awake05C : Ctr := { args := [], res := [.bool], pre := none, fn := fun _ => true }
theorem awake05_tree : (fun x : Unit => evFn (mkC tys epochG []) (fnOf Try.prog 26) (resL awake05C.args x) awake05C.res) =
  (fun x => Tree.need ((17 : Nat) ≤ (4611686018427387904 : Nat)) (Tree.leaf true)) := by kernel_rfl
theorem awake05_ok : CtrOK Try.prog 26 awake05C :=
  fun_ok (G := epochG) (Λ := []) tysOK epochG_ok mixed (by kernel_rfl) (by kernel_rfl) (by kernel_rfl) (by kernel_rfl) lp_nil fun x hw _ => by
    rw [congrFun awake05_tree x]
    simp [Tree.holds, awake05C]
def lawOrderC : Ctr := { args := [gE, gE, gE], res := [.bool], pre := some (smallD [gE, gE, gE]), fn := fun _ => true }
def lawOrderG : List (Nat × Ctr) := (26, awake05C) :: epochG
theorem order_tree : (fun x : (Int × Int) × (Int × Int) × (Int × Int) => evFn (mkC tys lawOrderG []) (fnOf Try.prog 5) (resL lawOrderC.args x) lawOrderC.res) =
  (fun x =>
    Tree.br
      (bif
          bif bif newerF x.1 x.2.1 then newerF x.2.1 x.1 else false then true
          else !geq GTy.bool (geq (GTy.prod (GTy.int IntKind.u32) (GTy.int IntKind.u32)) x.1 x.2.1) (bif !newerF x.1 x.2.1 then !newerF x.2.1 x.1 else false) then
        true
      else bif bif newerF x.1 x.2.1 then newerF x.2.1 x.2.2 else false then !newerF x.1 x.2.2 else false)
      (Tree.leaf false)
      (Tree.leaf
        (bif
            bif bif bif (nextF x.1).2 != (0 : Int) then true else newerF (nextF x.1).1 x.1 then bif (rebootF x.1).2 != (0 : Int) then true else newerF (rebootF x.1).1 x.1 else false then
              bif bif (nextF x.1).2 != (0 : Int) then true else (rebootF x.1).2 != (0 : Int) then true else newerF (rebootF x.1).1 (nextF x.1).1
            else false then
          true
        else false))) := by kernel_rfl
theorem order_ok : CtrOK Try.prog 5 lawOrderC :=
  fun_ok (G := lawOrderG) (Λ := []) tysOK (ctrs_cons awake05_ok epochG_ok) mixed (by kernel_rfl) (by kernel_rfl) (by kernel_rfl) (by kernel_rfl) lp_nil fun (x : (Int × Int) × (Int × Int) × (Int × Int)) hw _ => by
    rw [congrFun order_tree x]
    simp only [Tree.holds]
    exact ⟨(fun h => by rw [order_no] at h; cases h), fun _ => order_yes _⟩
def lawBackC : Ctr := { args := [gPair, .str], res := [.bool], pre := some (smallD [gPair, .str]), fn := fun _ => true }
theorem back_tree : (fun x : ((Int × Int) × (Int × Int)) × List UInt8 => evFn (mkC tys lawOrderG []) (fnOf Try.prog 6) (resL lawBackC.args x) lawBackC.res) =
  (fun x =>
    Tree.br (decide ((↑(List.length x.2) : Int) > (300 : Int))) (Tree.leaf true)
      (Tree.need (List.length (pairB x.1) + List.length x.2 ≤ (4611686018427387904 : Nat))
        (Tree.leaf
          (bif
              bif
                  bif
                      bif
                          bif (readF (pairB x.1 ++ x.2)).2.2 == (0 : Int) then
                            geq (GTy.prod (GTy.prod (GTy.int IntKind.u32) (GTy.int IntKind.u32)) (GTy.prod (GTy.int IntKind.u32) (GTy.int IntKind.u32))) (readF (pairB x.1 ++ x.2)).1 x.1
                          else false then
                        (readF (pairB x.1 ++ x.2)).2.1 == x.2
                      else false then
                    geq (GTy.prod (GTy.prod (GTy.int IntKind.u32) (GTy.int IntKind.u32)) (GTy.prod (GTy.int IntKind.u32) (GTy.int IntKind.u32))) (swapF (swapF x.1)) x.1
                  else false then
                geq GTy.bool (sameF x.1 (swapF x.1)) (bif !noneF x.1.1 then !noneF x.1.2 else false)
              else false then
            true
          else false)))) := by kernel_rfl
theorem back_ok : CtrOK Try.prog 6 lawBackC :=
  fun_ok (G := lawOrderG) (Λ := []) tysOK (ctrs_cons awake05_ok epochG_ok) mixed (by kernel_rfl) (by kernel_rfl) (by kernel_rfl) (by kernel_rfl) lp_nil fun (x : ((Int × Int) × (Int × Int)) × List UInt8) hw _ => by
    rw [congrFun back_tree x]
    simp only [Tree.holds]
    refine ⟨fun _ => rfl, fun h => ⟨?_, ?_⟩⟩
    · have h' : (x.2.length : Int) ≤ 300 := by simpa using h
      rw [pairB_len]
      omega
    · rw [read_pair hw.1, geqPair, geqPair, geqB]
      have e : swapF (swapF x.1) = x.1 := rfl
      have e2 : sameF x.1 (swapF x.1) = (!(noneF x.1.1) && !(noneF x.1.2)) := by
        unfold sameF
        rw [e, geqPair]
        simp
      rw [e, e2]
      cases noneF x.1.1 <;> cases noneF x.1.2 <;> simp [lawBackC]
end Go.Ev.P
/- Parcels, and by whom they go, plainly. -/
set_option linter.unusedVariables false
namespace Go.Ev

abbrev gFib : GTy := .prod (.int .i64) (.prod (.arr 16 (.int .i64)) (.arr 16 gPair))
abbrev gParcel : GTy := .prod (.int .i64) (.prod gPair (.prod (.int .i64) (.prod (.int .i64) (.prod (.int .i64) .str))))
abbrev DPair := (Int × Int) × (Int × Int)
abbrev DFib := Int × List Int × List DPair
abbrev DParcel := Int × DPair × Int × Int × Int × List UInt8

def rightF (n : Int) : Bool := bif decide (n ≥ 0) then decide (n < 16) else false
def parcel0 : DParcel := (0, ((0, 0), (0, 0)), 0, 0, 0, [])
def prightF (p : DParcel) : Bool :=
  bif bif bif bif bif rightF p.1 then rightF p.2.2.1 else false then rightF p.2.2.2.1 else false then decide (p.2.2.2.2.1 ≥ 1) else false then decide (p.2.2.2.2.1 ≤ 64) else false then decide ((p.2.2.2.2.2.length : Int) ≤ 64) else false
def hoppedF (p : DParcel) (n : Int) (e : DPair) : DParcel := bif decide (p.2.2.2.2.1 ≤ 1) then parcel0 else (n, e, p.2.2.1, p.2.2.2.1, IntKind.i64.wrap (p.2.2.2.2.1 - 1), p.2.2.2.2.2)
def hopF (p : DParcel) (n : Int) (e : DPair) : DParcel × Bool := (hoppedF p n e, !(geq gParcel (hoppedF p n e) parcel0))
def fib0 (self : Int) : DFib := (self, List.replicate 16 (-1), List.replicate 16 ((0, 0), (0, 0)))
def oldF (f : DFib) (p : DParcel) : Bool := bif bif !rightF p.1 then true else p.1 == f.1 then true else !sameF (f.2.2.getD p.1.toNat ((0, 0), (0, 0))) p.2.1
theorem rightF_iff {n : Int} : rightF n = true ↔ 0 ≤ n ∧ n < 16 := by
  unfold rightF
  cases h : decide (n ≥ 0) <;> simp at h ⊢ <;> omega
def fateF (f : DFib) (p : DParcel) (mine : Bool) : Int :=
  bif !prightF p then 3 else bif bif !mine then oldF f p else false then 4 else bif p.2.2.2.1 == f.1 then 0 else bif bif !mine then p.2.2.1 == f.1 else false then 5 else
    bif !rightF (f.2.1.getD p.2.2.2.1.toNat 0) then 3 else bif bif !mine then decide (p.2.2.2.2.1 ≤ 1) else false then 2 else 1
def outF (f : DFib) (p : DParcel) : Int × DParcel × Bool :=
  bif bif !rightF p.2.2.2.1 then true else !rightF (f.2.1.getD p.2.2.2.1.toNat 0) then (-1, parcel0, false) else
    (f.2.1.getD p.2.2.2.1.toNat 0, (f.1, f.2.2.getD (f.2.1.getD p.2.2.2.1.toNat 0).toNat ((0, 0), (0, 0)), p.2.2), true)
theorem prightF_dst {p : DParcel} (h : prightF p = true) : 0 ≤ p.2.2.2.1 ∧ p.2.2.2.1 < 16 := by
  unfold prightF at h
  cases h1 : rightF p.2.2.2.1 with
  | true => exact rightF_iff.1 h1
  | false => rw [h1] at h; cases hx : rightF p.1 <;> cases hy : rightF p.2.2.1 <;> simp [hx, hy] at h
def carryF (f : DFib) (p : DParcel) : Int × DParcel × Int :=
  bif fateF f p false != 1 then (-1, parcel0, fateF f p false) else bif geq gParcel (hopF p f.1 p.2.1).1 parcel0 then (-1, (hopF p f.1 p.2.1).1, fateF f p false) else
    ((outF f (hopF p f.1 p.2.1).1).1, (outF f (hopF p f.1 p.2.1).1).2.1, fateF f p false)
def beginF (f : DFib) (p : DParcel) : Int × DParcel × Int :=
  bif fateF f (f.1, p.2.1, f.1, p.2.2.2) true != 1 then (-1, parcel0, fateF f (f.1, p.2.1, f.1, p.2.2.2) true) else
    ((outF f (f.1, p.2.1, f.1, p.2.2.2)).1, (outF f (f.1, p.2.1, f.1, p.2.2.2)).2.1, fateF f (f.1, p.2.1, f.1, p.2.2.2) true)
def someFib : DFib := (1, (List.replicate 16 (-1)).set 3 2, ((List.replicate 16 ((0, 0), (0, 0))).set 2 ((1, 0), (2, 0))).set 4 ((1, 0), (9, 0)))
end Go.Ev
/- What goes on, plainly. -/
set_option linter.unusedVariables false
namespace Go.Ev

def nextOf (f : DFib) (p : DParcel) : Int := f.2.1.getD p.2.2.2.1.toNat 0
theorem pright_ttl {p : DParcel} (h : prightF p = true) : 1 ≤ p.2.2.2.2.1 ∧ p.2.2.2.2.1 ≤ 64 := by
  unfold prightF at h
  cases h1 : rightF p.1 <;> cases h2 : rightF p.2.2.1 <;> cases h3 : rightF p.2.2.2.1 <;> cases h4 : decide (p.2.2.2.2.1 ≥ 1) <;> cases h5 : decide (p.2.2.2.2.1 ≤ 64) <;> simp [h1, h2, h3, h4, h5] at h
  simp at h4 h5
  exact ⟨h4, h5⟩
theorem fate_on {f : DFib} {p : DParcel} (h : fateF f p false = 1) : prightF p = true ∧ rightF (nextOf f p) = true ∧ 1 < p.2.2.2.2.1 := by
  unfold fateF at h
  unfold nextOf
  cases h1 : prightF p <;> cases h2 : oldF f p <;> cases h3 : (p.2.2.2.1 == f.1) <;> cases h4 : (p.2.2.1 == f.1) <;> cases h5 : rightF (f.2.1.getD p.2.2.2.1.toNat 0) <;> cases h6 : decide (p.2.2.2.2.1 ≤ 1) <;> rw [h1, h2, h3, h4, h5, h6] at h <;> first | (exfalso; revert h; decide) | skip
  simp at h6
  exact ⟨rfl, rfl, h6⟩
theorem carry_fate (f : DFib) (p : DParcel) : (carryF f p).2.2 = fateF f p false := by
  unfold carryF
  cases (fateF f p false != 1) <;> cases geq gParcel (hopF p f.1 p.2.1).1 parcel0 <;> rfl
theorem carry_off {f : DFib} {p : DParcel} (h : (fateF f p false != 1) = true) : carryF f p = (-1, parcel0, fateF f p false) := by
  unfold carryF
  rw [h]
  rfl
theorem carry_on {f : DFib} {p : DParcel} (h : fateF f p false = 1) :
    carryF f p = (nextOf f p, (f.1, f.2.2.getD (nextOf f p).toNat ((0, 0), (0, 0)), p.2.2.1, p.2.2.2.1, IntKind.i64.wrap (p.2.2.2.2.1 - 1), p.2.2.2.2.2), 1) := by
  obtain ⟨h1, h2, h3⟩ := fate_on h
  have ht := pright_ttl h1
  have hd := rightF_iff.2 (prightF_dst h1)
  have hh : decide (p.2.2.2.2.1 ≤ 1) = false := by simpa using h3
  have e : IntKind.i64.wrap (p.2.2.2.2.1 - 1) = p.2.2.2.2.1 - 1 := i64_id (by omega) (by omega)
  have hop : (hopF p f.1 p.2.1).1 = (f.1, p.2.1, p.2.2.1, p.2.2.2.1, IntKind.i64.wrap (p.2.2.2.2.1 - 1), p.2.2.2.2.2) := by
    unfold hopF hoppedF
    rw [hh]
    rfl
  have hne : geq gParcel (hopF p f.1 p.2.1).1 parcel0 = false := by
    rw [hop, e]
    have : (p.2.2.2.2.1 - 1 == (0 : Int)) = false := by simp; omega
    simp only [geq, parcel0, this, Bool.false_and, Bool.and_false]
  unfold carryF
  rw [hne, h, hop]
  unfold outF
  rw [hd]
  unfold nextOf at h2 ⊢
  rw [h2]
  rfl
theorem keeps_yes {f : DFib} {p : DParcel} (h : fateF f p false = 1) :
    (bif bif bif bif bif bif bif (carryF f p).1 == nextOf f p then (carryF f p).2.1.2.2.2.2.2 == p.2.2.2.2.2 else false then (carryF f p).2.1.2.2.1 == p.2.2.1 else false then (carryF f p).2.1.2.2.2.1 == p.2.2.2.1 else false then
      (carryF f p).2.1.2.2.2.2.1 == IntKind.i64.wrap (p.2.2.2.2.1 - 1) else false then (carryF f p).2.1.1 == f.1 else false then geq gPair (carryF f p).2.1.2.1 (f.2.2.getD (carryF f p).1.toNat ((0, 0), (0, 0))) else false then true else false) = true := by
  rw [carry_on h]
  simp [geqPair]
end Go.Ev
