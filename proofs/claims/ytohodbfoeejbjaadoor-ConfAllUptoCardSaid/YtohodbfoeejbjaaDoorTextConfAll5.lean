/- Code does what the evaluator says. -/
import Derived.Scope
import Derived.Test.YtohodbfoeejbjaaDoorProg
import Derived.KernelRfl
import Derived.Lib.ItoaNum
import Derived.Lib.ItoaMem
import Derived.Test.YtohodbfoeejbjaaDoorTextConfAll4

set_option linter.unusedVariables false
set_option linter.unusedSimpArgs false
namespace Go.Ev

/-- What is told of the loops is so. -/
def LamOK (C : Ctx) : Code → Prop
  | .seq a b => LamOK C a ∧ LamOK C b
  | .cond _ a b => LamOK C a ∧ LamOK C b
  | .loop c => LamOK C c
  | .scope c => LamOK C c
  | .block id c => LamOK C c ∧ ∀ body, c = .loop body → ∀ L, C.Λ id = some L → ∀ (s : St) (F : Ex × St → Prop), (L.sum s).holds F → ∃ n, (iter L (ev C body) n s).holds F
  | _ => True

section
variable {P : Program} {C : Ctx}

theorem mem_dsts {ops : List Oper} {t : Nat} : t ∈ dsts ops ↔ ∃ o ∈ ops, o.dst = some t := by
  unfold dsts
  rw [List.mem_filterMap]

theorem region_ok (TOK : TysOK P C.τ) (GC : CtrsOK P C.Γ) (DK : DsOK P C) (hmix : P.follows .mixedOrders = true) (id : Nat) (ops : Array Oper) (draw : Bool) : BodyOK P C (.region id ops draw) := by
  intro R s a w F hs hsz hF
  have hd : ∀ o ∈ ops.toList, ∀ k, o.dst = some k → k < a.tmps.size := fun o ho k hk => hsz k (mem_dsts.2 ⟨o, ho, hk⟩)
  simp only [ev] at hF
  split at hF
  · cases draw with
    | true => exact runDrawD_wp TOK GC DK hmix hs hF hd (fun z s' a' w' f1 f2 f3 => ⟨z, s', rfl, f1, f2, f3.mono (fun t ht => mem_dsts.2 ht)⟩)
    | false =>
      simp only [regD] at hF
      split at hF
      · exact hF.elim
      rename_i hg
      rw [List.any_eq_false] at hg
      refine wp_region ?_
      rw [List.range_eq_range', show ops.size = ops.toList.length by simp]
      refine runOpsD_wp TOK GC DK ops.toList 0 s a w _ (fun i o hi => by rw [Nat.zero_add, ← Array.getElem?_toList]; exact hi) (fun o ho => ⟨?_, hd o ho⟩) hs hF (fun z s' a' w' f1 f2 f3 => ⟨z, s', rfl, f1, f2, f3.mono (fun t ht => mem_dsts.2 ht)⟩)
      have := hg o ho
      cases hgo : o.guard with
      | none => rfl
      | some x => simp [hgo] at this
  split at hF
  · rename_i hg
    simp only [Bool.or_eq_false_iff, List.any_eq_false] at hg
    obtain ⟨rfl, hg⟩ := hg
    have hF' := holds_bind.1 hF
    refine wp_region ?_
    rw [List.range_eq_range', show ops.size = ops.toList.length by simp]
    refine runOps_wp TOK GC ops.toList 0 s a w _ (fun i o hi => by rw [Nat.zero_add, ← Array.getElem?_toList]; exact hi) (fun o ho => ⟨?_, hd o ho⟩) hs hF' (fun s' a' w' f1 f2 f3 => ⟨.normal, s', rfl, f1, f2, f3.mono (fun t ht => mem_dsts.2 ht)⟩)
    have := hg o ho
    cases hgo : o.guard with
    | none => rfl
    | some x => simp [hgo] at this
  · have hF' := holds_bind.1 hF
    cases draw with
    | true => exact runDraw_wp TOK GC hmix hs hF' hd (fun s' a' w' f1 f2 f3 => ⟨.normal, s', rfl, f1, f2, f3.mono (fun t ht => mem_dsts.2 ht)⟩)
    | false =>
      simp only at hF'
      have other : (runBr C ops.toList ops.toList s).holds (fun s' => (Tree.leaf (Ex.normal, s')).holds F) → (Code.region id ops false).wp P (fun e a' w' => ∃ z s', e = Ex.to z ∧ F (z, s') ∧ IsSt R s' a' w' ∧ Apart (fun t => t ∈ writes (Code.region id ops false)) s a s' a') a w := fun h => by
        refine wp_region ?_
        rw [List.range_eq_range', show ops.size = ops.toList.length by simp]
        exact runBr_wp TOK GC ops.toList 0 s a w _ (fun i o hi => by rw [Nat.zero_add, ← Array.getElem?_toList]; exact hi) hd hs h (fun s' a' w' f1 f2 f3 => ⟨.normal, s', rfl, f1, f2, f3.mono (fun t ht => mem_dsts.2 ht)⟩)
      cases hr : runDraw C ops.toList false s with
      | stuck => rw [hr] at hF'; exact other hF'
      | leaf _ => exact runDraw_wp TOK GC hmix hs (by rw [hr] at hF' ⊢; exact hF') hd (fun s' a' w' f1 f2 f3 => ⟨.normal, s', rfl, f1, f2, f3.mono (fun t ht => mem_dsts.2 ht)⟩)
      | br _ _ _ => exact runDraw_wp TOK GC hmix hs (by rw [hr] at hF' ⊢; exact hF') hd (fun s' a' w' f1 f2 f3 => ⟨.normal, s', rfl, f1, f2, f3.mono (fun t ht => mem_dsts.2 ht)⟩)
      | need _ _ => exact runDraw_wp TOK GC hmix hs (by rw [hr] at hF' ⊢; exact hF') hd (fun s' a' w' f1 f2 f3 => ⟨.normal, s', rfl, f1, f2, f3.mono (fun t ht => mem_dsts.2 ht)⟩)

theorem seq_ok {x y : Code} (hx : BodyOK P C x) (hy : BodyOK P C y) : BodyOK P C (.seq x y) := by
  intro R s a w F hs hsz hF
  simp only [ev] at hF
  have hF' := holds_bind.1 hF
  simp only [writes, List.mem_append] at hsz ⊢
  refine wp_seq (wp_mono (hx R s a w _ hs (fun t ht => hsz t (.inl ht)) hF') ?_)
  rintro e a1 w1 ⟨z, s1, rfl, h1, h2, h3⟩
  have h3' := h3.mono (W' := fun t => t ∈ writes x ∨ t ∈ writes y) (fun t ht => .inl ht)
  cases z with
  | normal =>
    refine wp_mono (hy R s1 a1 w1 _ h2 (fun t ht => by rw [h3.size]; exact hsz t (.inr ht)) h1) ?_
    rintro e a2 w2 ⟨z, s2, rfl, k1, k2, k3⟩
    exact ⟨z, s2, rfl, k1, k2, h3'.trans (k3.mono (fun t ht => .inr ht))⟩
  | exit id => exact ⟨.exit id, s1, rfl, h1, h2, h3'⟩
  | ret => exact ⟨.ret, s1, rfl, h1, h2, h3'⟩
  | die v => exact ⟨.die v, s1, rfl, h1, h2, h3'⟩

theorem cond_ok {c : Operand} {x y : Code} (hx : BodyOK P C x) (hy : BodyOK P C y) : BodyOK P C (.cond c x y) := by
  intro R s a w F hs hsz hF
  simp only [ev] at hF
  split at hF
  · rename_i b hc
    have hev : a.eval c = .bool b := by
      obtain ⟨M, _, _, I, hr⟩ := hs
      have := eval_rel (R.tab.keeps I.old) hr c
      rw [hc] at this
      exact relBool this
    have hF' := holds_bind.1 hF
    simp only [Tree.holds] at hF'
    have fin : ∀ {W : Nat → Prop} {z : Ex} {s' : St} {a' : Act} {w' : World}, F (z, s'.remark s) → IsSt R s' a' w' → Apart W s.clean a s' a' → (∀ t, W t → t ∈ writes (.cond c x y)) →
        ∃ z' s'', z.to = Ex.to z' ∧ F (z', s'') ∧ IsSt R s'' a' w' ∧ Apart (fun t => t ∈ writes (.cond c x y)) s a s'' a' :=
      fun h1 h2 h3 h4 => ⟨_, _, rfl, h1, h2.remark s, h3.remark.mono h4⟩
    have go : ∀ (z : Code), BodyOK P C z → (∀ t ∈ writes z, t ∈ writes (.cond c x y)) → (ev C z s.clean).holds (fun p => F (p.1, p.2.remark s)) →
        z.wp P (fun e a' w' => ∃ z' s'', e = Ex.to z' ∧ F (z', s'') ∧ IsSt R s'' a' w' ∧ Apart (fun t => t ∈ writes (.cond c x y)) s a s'' a') a w := by
      intro z hz hw h
      refine wp_mono (hz R s.clean a w _ hs.clean (fun t ht => hsz t (hw t ht)) h) ?_
      rintro e a1 w1 ⟨z', s1, rfl, h1, h2, h3⟩
      exact fin h1 h2 h3 hw
    have wx : ∀ t ∈ writes x, t ∈ writes (.cond c x y) := fun t ht => by simp only [writes, List.mem_append]; exact .inl ht
    have wy : ∀ t ∈ writes y, t ∈ writes (.cond c x y) := fun t ht => by simp only [writes, List.mem_append]; exact .inr ht
    have plain : (b = true → (ev C x s.clean).holds (fun p => F (p.1, p.2.remark s))) → (b = false → (ev C y s.clean).holds (fun p => F (p.1, p.2.remark s))) →
        (Code.cond c x y).wp P (fun e a' w' => ∃ z' s'', e = Ex.to z' ∧ F (z', s'') ∧ IsSt R s'' a' w' ∧ Apart (fun t => t ∈ writes (.cond c x y)) s a s'' a') a w := by
      intro h1 h2
      refine wp_cond hev ?_
      cases b with
      | true => exact go x hx wx (h1 rfl)
      | false => exact go y hy wy (h2 rfl)
    cases hdec : C.dec with
    | true =>
      rw [hdec] at hF'
      obtain ⟨k1, k2⟩ := holds_pickT hF'
      exact plain k1 k2
    | false =>
      rw [hdec] at hF'
      simp only at hF'
      unfold fork at hF'
      split at hF'
      · rename_i ps sa qs sb e1 e2
        split at hF'
        · rename_i m hm
          obtain ⟨k1, k2⟩ := needs_holds hF'
          obtain ⟨k3, k4⟩ := needs_holds k2
          have mg : ∀ {a' w'} , IsSt R (if b then sa else sb) a' w' → Apart (fun t => t ∈ dedupN (writes x ++ writes y)) s.clean a (if b then sa else sb) a' →
              ∃ z' s'', Exit.normal = Ex.to z' ∧ F (z', s'') ∧ IsSt R s'' a' w' ∧ Apart (fun t => t ∈ writes (.cond c x y)) s a s'' a' := by
            intro a' w' h1 h2
            obtain ⟨h3, h4⟩ := merge_sound hm h1 h2
            exact fin (z := .normal) k4 h3 h4 (fun t ht => by simpa only [writes] using mem_dedup.1 ht)
          refine wp_cond hev ?_
          cases b with
          | true =>
            refine wp_mono (hx R s.clean a w _ hs.clean (fun t ht => hsz t (wx t ht)) (single_holds e1 (k1 rfl))) ?_
            rintro e a1 w1 ⟨z', s1, rfl, h1, h2, h3⟩
            simp only [Prod.mk.injEq] at h1
            obtain ⟨rfl, rfl⟩ := h1
            exact mg h2 (h3.mono (fun t ht => mem_dedup.2 (List.mem_append.2 (.inl ht))))
          | false =>
            refine wp_mono (hy R s.clean a w _ hs.clean (fun t ht => hsz t (wy t ht)) (single_holds e2 (k3 rfl))) ?_
            rintro e a1 w1 ⟨z', s1, rfl, h1, h2, h3⟩
            simp only [Prod.mk.injEq] at h1
            obtain ⟨rfl, rfl⟩ := h1
            exact mg h2 (h3.mono (fun t ht => mem_dedup.2 (List.mem_append.2 (.inr ht))))
        · exact plain hF'.1 hF'.2
      · exact plain hF'.1 hF'.2
  · exact hF.elim

theorem leaves_block {Q : Ex → Act → World → Prop} {id : Nat} {x : Ex} {a : Act} {w : World} {Q' : Exit → Act → World → Prop} (h : Q' (leaves id x).to a w) : Exit.inBlock id Q' x.to a w := by
  cases x with
  | normal => exact h
  | ret => exact h
  | die v => exact h
  | exit j =>
    simp only [leaves] at h
    simp only [Ex.to, Exit.inBlock]
    split at h
    · rename_i hb
      rw [if_pos (Nat.eq_of_beq_eq_true hb)]
      exact h
    · rename_i hb
      rw [if_neg (fun hh => by rw [hh] at hb; simp at hb)]
      exact h

theorem block_ok {id : Nat} {c : Code} (hc : BodyOK P C c) (he : ∀ s, ev C (.block id c) s = (ev C c s).bind fun x => .leaf (leaves id x.1, x.2)) : BodyOK P C (.block id c) := by
  intro R s a w F hs hsz hF
  rw [he] at hF
  have hF' := holds_bind.1 hF
  refine wp_block (wp_mono (hc R s a w _ hs hsz hF') ?_)
  rintro e a1 w1 ⟨z, s1, rfl, h1, h2, h3⟩
  refine leaves_block (Q := fun _ _ _ => True) ?_
  exact ⟨_, s1, rfl, h1, h2, h3⟩

theorem loop_ok {id : Nat} {body : Code} (hB : BodyOK P C body) (hL : ∀ L, C.Λ id = some L → ∀ (s : St) (F : Ex × St → Prop), (L.sum s).holds F → ∃ n, (iter L (ev C body) n s).holds F) : BodyOK P C (.block id (.loop body)) := by
  intro R s a w F hs hsz hF
  simp only [ev] at hF
  split at hF
  · exact hF.elim
  rename_i L hLam
  split at hF
  · exact hF.elim
  rename_i s0 hp
  split at hF
  · exact hF.elim
  · exact hF.elim
  rename_i s1 hr hall
  have hF' := holds_bind.1 hF
  obtain ⟨n, hn⟩ := hL L hLam s1 _ hF'
  obtain ⟨hs0, hlk, hbx⟩ := promote_sound hp hs
  have hprom : ∀ t, ¬ t ∈ writes body → s0.look t = s.look t := by
    intro t ht
    refine hlk t (fun p hp' heq => ht ?_)
    rw [List.all_eq_true] at hall
    exact heq ▸ memN_iff.1 (hall p hp')
  have H1 := restrict_spec hr
  obtain ⟨M, rfl, hb, I, hrel⟩ := hs0
  refine wp_block (loop_wp (L := L) (R := subRef M L (R.tab.keeps I.old)) hB (enter I hb hrel H1) hsz hn ?_)
  intro x sx s2 a' w' hx h1 h2 H hf
  refine leaves_block (Q := fun _ _ _ => True) ?_
  obtain ⟨q1, q2⟩ := leave I hb hrel H1 h2 H hf
  refine ⟨_, _, rfl, h1, q1, q2.size, q2.defers, q2.tmps, fun t ht => ?_, fun b B hB => hbx b B (q2.boxes b B hB)⟩
  rcases q2.look t ht with h | h
  · exact .inl h
  · exact .inr (h.trans (hprom t ht))

/-- Code does what the evaluator says. -/
theorem ev_ok (TOK : TysOK P C.τ) (GC : CtrsOK P C.Γ) (DK : DsOK P C) (hmix : P.follows .mixedOrders = true) (c : Code) : LamOK C c → BodyOK P C c ∧ ∀ body, c = .loop body → BodyOK P C body := by
  have stuck : ∀ c : Code, (∀ s, ev C c s = .stuck) → BodyOK P C c := fun c h R s a w F _ _ hF => by rw [h] at hF; exact hF.elim
  induction c with
  | skip => exact fun _ => ⟨fun R s a w F hs _ hF => wp_skip ⟨.normal, s, rfl, hF, hs, Apart.refl _ _ _⟩, nofun⟩
  | region id ops draw => exact fun _ => ⟨region_ok TOK GC DK hmix id ops draw, nofun⟩
  | seq x y hx hy => exact fun h => ⟨seq_ok (hx h.1).1 (hy h.2).1, nofun⟩
  | cond c x y hx hy => exact fun h => ⟨cond_ok (hx h.1).1 (hy h.2).1, nofun⟩
  | block id c hc =>
    refine fun h => ⟨?_, nofun⟩
    cases c with
    | loop body => exact loop_ok ((hc h.1).2 body rfl) (h.2 body rfl)
    | _ => exact block_ok (hc h.1).1 (fun s => rfl)
  | loop body hb => exact fun h => ⟨stuck _ (fun s => rfl), fun b hh => by cases hh; exact (hb h).1⟩
  | exit id => exact fun _ => ⟨fun R s a w F hs _ hF => wp_exit ⟨.exit id, s, rfl, hF, hs, Apart.refl _ _ _⟩, nofun⟩
  | ret => exact fun _ => ⟨fun R s a w F hs _ hF => wp_ret ⟨.ret, s, rfl, hF, hs, Apart.refl _ _ _⟩, nofun⟩
  | rangeFunc f ps x y hx hy => exact fun _ => ⟨stuck _ (fun s => rfl), nofun⟩
  | scope c hc =>
    refine fun h => ⟨fun R s a w F hs hsz hF => wp_scope_straight (wp_mono ((hc h).1 R s a w F hs hsz hF) ?_), nofun⟩
    rintro e a1 w1 ⟨z, s1, rfl, h1, h2, h3⟩
    cases z <;> exact ⟨_, s1, rfl, h1, h2, h3⟩
  | label l => exact fun _ => ⟨fun R s a w F hs _ hF => wp_label ⟨.normal, s, rfl, hF, hs, Apart.refl _ _ _⟩, nofun⟩
  | goto l => exact fun _ => ⟨stuck _ (fun s => rfl), nofun⟩
  | refuse w => exact fun _ => ⟨stuck _ (fun s => rfl), nofun⟩
end
end Go.Ev
/- A function keeps the contract that the evaluator reckons. -/
set_option linter.unusedVariables false
set_option linter.unusedSimpArgs false
namespace Go.Ev
section
variable {P : Program} {C : Ctx}

theorem lk_number {α : Type} (t : Nat) : ∀ (l : List α) (n : Nat), lk t (number n l) = if n ≤ t then l[t - n]? else none
  | [], n => by simp [number, lk]
  | v :: l, n => by
    simp only [number, lk]
    cases hb : Nat.beq n t with
    | true =>
      have := Nat.eq_of_beq_eq_true hb
      subst this
      simp
    | false =>
      have hne : n ≠ t := fun h => by rw [h] at hb; simp at hb
      rw [lk_number t l (n + 1)]
      by_cases h : n ≤ t
      · rw [if_pos (by omega), if_pos h, show t - n = (t - (n + 1)) + 1 by omega]
        simp
      · rw [if_neg (by omega), if_neg h]

theorem loadAddr {M : Mem} {R : Ref} {τ : Tys} (TOK : TysOK P τ) (I : InvM R M) {t : TypeId} {i : TInfo} (hi : τ t = some i) {va : AV} {u : Value} (hr : RelV M va u) {e : Eff} (h : loadEff i.g (argOf M.bs va) = some e) :
    ∃ v, (do loadVar t (← asAddr u) : Sem Value).run P M.w = .ok v M.w ∧ RelV M e.av v ∧ ∃ y, e.av = .val i.g y := by
  obtain ⟨v, h1, h2, h3, h4⟩ := loadEff_sound TOK I hi (ArgR.of hr) h
  refine ⟨v, ?_, h3, h4⟩
  have hu : ∃ blk off, u = .pointer (some ⟨blk, off, none⟩) := by
    unfold loadEff argOf at h
    cases va with
    | ptr b g p =>
      simp only [RelV] at hr
      obtain ⟨blk, d, B, _, _, _, hu⟩ := hr
      exact ⟨_, _, hu⟩
    | ref g y =>
      simp only [RelV] at hr
      obtain ⟨blk, off, cs, _, _, hu⟩ := hr
      exact ⟨_, _, hu⟩
    | undef => simp at h
    | cst _ => simp at h
    | val _ _ => simp at h
    | tip _ => simp at h
    | tup _ => simp at h
    | clo _ _ => simp at h
    | nxt _ _ _ => simp at h
    | win _ _ => simp at h
  obtain ⟨blk, off, rfl⟩ := hu
  simpa [Instr.loadAt, Instr.sureAddr, asAddr] using h1

def resF (tmps : Array Value) : ResultVar → Sem Value
  | .tmp t => pure (tmps.getD t undef)
  | .cell a t => do loadVar t (← asAddr (tmps.getD a undef))

theorem results_eq (fn : Func) (tmps : Array Value) : results fn tmps = (do let vs ← fn.results.mapM (resF tmps); pure (if h : vs.size = 1 then vs[0] else .tuple vs)) := rfl

theorem resArgs_sound {M : Mem} {R : Ref} (TOK : TysOK P C.τ) (I : InvM R M) {s : St} (hb : M.bs = s.boxes) {tmps : Array Value} (hr : ∀ t, RelV M (s.look t) (tmps.getD t undef)) : ∀ {l : List ResultVar} {aas : List Arg}, resArgs C s l = some aas →
    ∃ us, (l.mapM (resF tmps)).run P M.w = .ok us M.w ∧ ArgsR M aas us
  | [], aas, h => by
    simp only [resArgs, Option.some.injEq] at h
    subst h
    exact ⟨[], by simp, trivial⟩
  | r :: l, aas, h => by
    simp only [resArgs] at h
    split at h
    · rename_i a aas' h1 h2
      simp only [Option.some.injEq] at h
      subst h
      obtain ⟨us, q1, q2⟩ := resArgs_sound TOK I hb hr h2
      have one : ∃ u, (resF tmps r).run P M.w = .ok u M.w ∧ ArgR M a u := by
        cases r with
        | tmp t =>
          simp only [resArg, Option.some.injEq] at h1
          subst h1
          refine ⟨tmps.getD t undef, rfl, ?_⟩
          have : s.arg (.tmp t) = argOf M.bs (s.look t) := by rw [hb]; rfl
          rw [this]
          exact ArgR.of (hr t)
        | cell ad t =>
          simp only [resArg] at h1
          split at h1
          · rename_i i hi
            split at h1
            · rename_i e he
              simp only [Option.some.injEq] at h1
              subst h1
              have : s.arg (.tmp ad) = argOf M.bs (s.look ad) := by rw [hb]; rfl
              rw [this] at he
              obtain ⟨v, k1, k2, y, k3⟩ := loadAddr TOK I hi (hr ad) he
              exact ⟨v, k1, k2, fun b B hb' _ => by rw [k3] at hb'; simp [boxOf] at hb'⟩
            · cases h1
          · cases h1
      obtain ⟨u, k1, k2⟩ := one
      exact ⟨u :: us, by rw [List.mapM_cons]; simp only [Sem.run_bind, k1, Result.andThen_ok, q1]; rfl, k2, q2⟩
    · cases h

theorem results_run {fn : Func} {tmps : Array Value} {w : World} {us : List Value} (h : (fn.results.toList.mapM (resF tmps)).run P w = .ok us w) :
    (results fn tmps).run P w = .ok (match us with | [u] => u | _ => .tuple us.toArray) w := by
  rw [results_eq, Array.mapM_eq_mapM_toList]
  have : (List.toArray <$> fn.results.toList.mapM (resF tmps) : Sem (Array Value)).run P w = .ok us.toArray w := by
    simp [h]
  simp only [Sem.run_bind]
  rw [this]
  simp only [Result.andThen_ok]
  rcases us with _ | ⟨u, _ | ⟨v, us⟩⟩ <;> simp

/-- A function keeps its contract. -/
theorem ctr_of_ev (TOK : TysOK P C.τ) (GC : CtrsOK P C.Γ) (DK : DsOK P C) (hmix : P.follows .mixedOrders = true) {f : Nat} {fn : Func} {body : Code} {c : Ctr} (hf : P.funcs[f]? = some fn) (hname : (fn.name == "runtime.NumGoroutine") = false) (hbody : fn.body = some body)
    (hlam : LamOK C body) (h : ∀ x : dens c.args, wtD c.args x → (∀ p, c.pre = some p → p x) → (evFn C fn (resL c.args x) c.res).holds (fun y => y = c.fn x)) : CtrOK P f c := by
  refine ⟨⟨fn, hf, by rw [hbody]; rfl, hname⟩, fun w S us x hS hT henc hpre => ?_⟩
  have hh := h x henc.wt hpre
  simp only [evFn, hbody] at hh
  split at hh
  · exact hh.elim
  rename_i hsz
  have hh' := holds_bind.1 hh
  let R : Ref := ⟨w, fun _ => False, S, hT⟩
  let M : Mem := ⟨w, S, fun _ => undef, []⟩
  have I : InvM R M := ⟨rfl, rfl, rfl, Nat.le_refl _, fun _ _ _ => rfl, Keeps.refl _ _, fun b o hs => ⟨.inl hs, hS b o hs⟩, fun b d B hb => by simp [M, lk] at hb, fun b c d B d' B' _ hb => by simp [M, lk] at hb⟩
  have hrl := resL_rel (M := M) (gs := c.args) (x := x) (us := us) henc
  let a : Act := { tmps := us.toArray ++ Array.replicate (fn.ntmps - us.toArray.size) undef, defers := [] }
  have hst : IsSt R { tmps := number 0 (resL c.args x), boxes := [] } a w := by
    refine ⟨M, rfl, rfl, I, fun t => ?_⟩
    show RelV M ((lk t (number 0 (resL c.args x))).getD .undef) _
    rw [lk_number]
    simp only [Nat.zero_le, if_true, Nat.sub_zero]
    cases hv : (resL c.args x)[t]? with
    | none => simp [RelV]
    | some v =>
      obtain ⟨u, h1, h2⟩ := hrl.get t hv
      have hlt := (List.getElem?_eq_some_iff.1 h1).1
      have : a.tmps.getD t undef = u := by
        simp only [a, Array.getD_eq_getD_getElem?]
        rw [Array.getElem?_append_left (by simpa using hlt)]
        simp [h1]
      rw [this]
      simpa using h2
  have hall : ∀ t ∈ writes body, t < a.tmps.size := by
    intro t ht
    rw [List.all_eq_true] at hsz
    have := hsz t ht
    rw [Nat.blt_eq] at this
    simp [a]
    omega
  refine calls_of_wp hf hbody (wp_mono ((ev_ok TOK GC DK hmix body hlam).1 R _ a w _ hst hall hh') ?_)
  rintro e a' w' ⟨z, s', rfl, h1, ⟨M', rfl, hb', I', hr'⟩, hap⟩
  have fin : (evRes C fn c.res (.normal, s')).holds (fun y => y = c.fn x) →
      a'.defers = [] ∧ ∃ v, (results fn a'.tmps).run P M'.w = .ok v M'.w ∧ ∃ v', Ending.returned v = Ending.returned v' ∧ Grows w M'.w ∧ ∃ N : Stab, (∀ b o, N b o → w.heap.size ≤ b ∧ b < M'.w.heap.size) ∧ RelRes M'.w (fun b o => S b o ∨ N b o) c.res (c.fn x) v' := by
    intro hF
    simp only [evRes] at hF
    split at hF
    · exact hF.elim
    rename_i aas has
    split at hF
    · exact hF.elim
    rename_i y ws htk
    simp only [Tree.holds] at hF
    subst hF
    obtain ⟨us', q1, q2⟩ := resArgs_sound TOK I' hb' hr' has
    obtain ⟨_, S', fz, henc'⟩ := takes_sound I' q2 htk
    refine ⟨hap.defers, _, results_run q1, _, rfl, ⟨I'.os, I'.tape, I'.output, I'.size, fun k hk => I'.frame k hk id⟩, fun b o => S' b o ∧ w.heap.size ≤ b, fun b o hN => ⟨hN.2, (fz.inv.here b o hN.1).2⟩, us', ?_, by rcases us' with _ | ⟨u, _ | ⟨v, us⟩⟩ <;> rfl⟩
    refine henc'.keeps (fun b o hs => ⟨?_, rfl⟩)
    rcases (fz.inv.here b o hs).1 with h3 | h3 | h3
    · exact .inl h3
    · exact .inr ⟨hs, h3⟩
    · exact h3.elim
  cases z with
  | exit id => exact h1.elim
  | die v => exact h1.elim
  | normal => exact fin h1
  | ret => exact fin h1
/-- A function that may panic keeps its contract. -/
theorem dctr_of_ev (TOK : TysOK P C.τ) (GC : CtrsOK P C.Γ) (DK : DsOK P C) (hmix : P.follows .mixedOrders = true) {f : Nat} {fn : Func} {body : Code} {d : DCtr} (hf : P.funcs[f]? = some fn) (hname : (fn.name == "runtime.NumGoroutine") = false) (hbody : fn.body = some body)
    (hlam : LamOK C body) (h : ∀ x : dens d.args, wtD d.args x → d.pre x → (evFnD C fn (resL d.args x) d.res).holds (fun y => y = bif d.die x then .inl (d.val x) else .inr (d.fn x))) : DCtrOK P f d := by
  refine ⟨⟨fn, hf, by rw [hbody]; rfl, hname⟩, fun w S us x hS hT henc hpre => ?_⟩
  have hh := h x henc.wt hpre
  simp only [evFnD, hbody] at hh
  split at hh
  · exact hh.elim
  rename_i hsz
  have hh' := holds_bind.1 hh
  let R : Ref := ⟨w, fun _ => False, S, hT⟩
  let M : Mem := ⟨w, S, fun _ => undef, []⟩
  have I : InvM R M := ⟨rfl, rfl, rfl, Nat.le_refl _, fun _ _ _ => rfl, Keeps.refl _ _, fun b o hs => ⟨.inl hs, hS b o hs⟩, fun b d B hb => by simp [M, lk] at hb, fun b c d B d' B' _ hb => by simp [M, lk] at hb⟩
  have hrl := resL_rel (M := M) (gs := d.args) (x := x) (us := us) henc
  let a : Act := { tmps := us.toArray ++ Array.replicate (fn.ntmps - us.toArray.size) undef, defers := [] }
  have hst : IsSt R { tmps := number 0 (resL d.args x), boxes := [] } a w := by
    refine ⟨M, rfl, rfl, I, fun t => ?_⟩
    show RelV M ((lk t (number 0 (resL d.args x))).getD .undef) _
    rw [lk_number]
    simp only [Nat.zero_le, if_true, Nat.sub_zero]
    cases hv : (resL d.args x)[t]? with
    | none => simp [RelV]
    | some v =>
      obtain ⟨u, h1, h2⟩ := hrl.get t hv
      have hlt := (List.getElem?_eq_some_iff.1 h1).1
      have : a.tmps.getD t undef = u := by
        simp only [a, Array.getD_eq_getD_getElem?]
        rw [Array.getElem?_append_left (by simpa using hlt)]
        simp [h1]
      rw [this]
      simpa using h2
  have hall : ∀ t ∈ writes body, t < a.tmps.size := by
    intro t ht
    rw [List.all_eq_true] at hsz
    have := hsz t ht
    rw [Nat.blt_eq] at this
    simp [a]
    omega
  refine calls_of_wp hf hbody (wp_mono ((ev_ok TOK GC DK hmix body hlam).1 R _ a w _ hst hall hh') ?_)
  rintro e a' w' ⟨z, s', rfl, h1, ⟨M', rfl, hb', I', hr'⟩, hap⟩
  have hgr : Grows w M'.w := ⟨I'.os, I'.tape, I'.output, I'.size, fun k hk => I'.frame k hk id⟩
  have fin : ((evRes C fn d.res (.normal, s')).bind fun x => Tree.leaf (Sum.inr x)).holds (fun y => y = bif d.die x then Sum.inl (d.val x) else Sum.inr (d.fn x)) →
      a'.defers = [] ∧ ∃ v, (results fn a'.tmps).run P M'.w = .ok v M'.w ∧ (Grows w M'.w ∧ ((d.die x = true ∧ Ending.returned v = .panicked [{ v := d.val x, recovered := false }]) ∨
        (d.die x = false ∧ ∃ v', Ending.returned v = Ending.returned v' ∧ ∃ N : Stab, (∀ b o, N b o → w.heap.size ≤ b ∧ b < M'.w.heap.size) ∧ RelRes M'.w (fun b o => S b o ∨ N b o) d.res (d.fn x) v'))) := by
    intro hF
    have hF := holds_bind.1 hF
    simp only [evRes] at hF
    split at hF
    · exact hF.elim
    rename_i aas has
    split at hF
    · exact hF.elim
    rename_i y ws htk
    simp only [Tree.holds] at hF
    have hdx : d.die x = false ∧ y = d.fn x := by
      cases hd : d.die x with
      | true => rw [hd] at hF; cases hF
      | false => rw [hd] at hF; exact ⟨rfl, Sum.inr.inj hF⟩
    obtain ⟨hdx, rfl⟩ := hdx
    obtain ⟨us', q1, q2⟩ := resArgs_sound TOK I' hb' hr' has
    obtain ⟨_, S', fz, henc'⟩ := takes_sound I' q2 htk
    refine ⟨hap.defers, _, results_run q1, hgr, .inr ⟨hdx, _, rfl, fun b o => S' b o ∧ w.heap.size ≤ b, fun b o hN => ⟨hN.2, (fz.inv.here b o hN.1).2⟩, us', ?_, by rcases us' with _ | ⟨u, _ | ⟨v, us⟩⟩ <;> rfl⟩⟩
    refine henc'.keeps (fun b o hs => ⟨?_, rfl⟩)
    rcases (fz.inv.here b o hs).1 with h3 | h3 | h3
    · exact .inl h3
    · exact .inr ⟨hs, h3⟩
    · exact h3.elim
  cases z with
  | exit id => exact h1.elim
  | normal => exact fin h1
  | ret => exact fin h1
  | die v =>
    refine ⟨hap.defers, hgr, .inl ?_⟩
    simp only [evResD, Tree.holds] at h1
    cases hd : d.die x with
    | true => rw [hd] at h1; exact ⟨rfl, by rw [Sum.inl.inj h1]⟩
    | false => rw [hd] at h1; cases h1
end
end Go.Ev
/- Loops told by plain functions. -/
set_option linter.unusedVariables false
set_option linter.unusedSimpArgs false
namespace Go.Ev

/-- What a slot holds at a loop's head. -/
inductive Sh where
  | val (g : GTy)
  | tip (b : Nat)
  | ptr (b : Nat) (g : GTy)
  | nil
  | undef
inductive BSh where
  | var (g : GTy)
  | row (e : Nat) (g : GTy) (fz : Bool)
  /-- a text's iterator: the text, and how far it came -/
  | iter

@[reducible] def ShT : List (Nat × Sh) → Type
  | [] => Unit
  | (_, .val g) :: l => den g × ShT l
  | (_, .tip _) :: l => ShT l
  | (_, .ptr _ _) :: l => ShT l
  | (_, .nil) :: l => ShT l
  | (_, .undef) :: l => ShT l
@[reducible] def ShB : List (Nat × BSh) → Type
  | [] => Unit
  | (_, .var g) :: l => den g × ShB l
  | (_, .row _ g _) :: l => List (den g) × ShB l
  | (_, .iter) :: l => (List UInt8 × Nat) × ShB l

def mkT : (l : List (Nat × Sh)) → ShT l → List (Nat × AV)
  | [], _ => []
  | (t, .val g) :: l, x => (t, .val g x.1) :: mkT l x.2
  | (t, .tip b) :: l, x => (t, .tip b) :: mkT l x
  | (t, .ptr b g) :: l, x => (t, .ptr b g []) :: mkT l x
  | (t, .nil) :: l, x => (t, .cst (.slice none 0 0)) :: mkT l x
  | (t, .undef) :: l, x => (t, .undef) :: mkT l x
def mkB : (l : List (Nat × BSh)) → ShB l → List (Nat × Bool × Box)
  | [], _ => []
  | (b, .var g) :: l, x => (b, false, .var g x.1) :: mkB l x.2
  | (b, .row e g f) :: l, x => (b, false, .row e g x.1 f) :: mkB l x.2
  | (b, .iter) :: l, x => (b, false, .iter x.1.1 x.1.2) :: mkB l x.2

def asV (g : GTy) : AV → Option (den g)
  | .val h x => match GTy.dec h g with
    | .isTrue e => some (e ▸ x)
    | .isFalse _ => none
  | _ => none
def isTip (b : Nat) : AV → Bool
  | .tip c => Nat.beq c b
  | _ => false
def isPtr (b : Nat) (g : GTy) : AV → Bool
  | .ptr c h [] => Nat.beq c b && (match GTy.dec h g with | .isTrue _ => true | .isFalse _ => false)
  | _ => false
def isNil : AV → Bool
  | .cst (.slice none 0 0) => true
  | _ => false
def asVar (g : GTy) : Box → Option (den g)
  | .var h x => match GTy.dec h g with
    | .isTrue e => some (e ▸ x)
    | .isFalse _ => none
  | _ => none
def asRow (e : Nat) (g : GTy) (f : Bool) : Box → Option (List (den g))
  | .row d h x f' => match GTy.dec h g, Nat.beq d e, f', f with
    | .isTrue q, true, true, true => some (q ▸ x)
    | .isTrue q, true, false, false => some (q ▸ x)
    | _, _, _, _ => none
  | _ => none

def asIter : Box → Option (List UInt8 × Nat)
  | .iter y p => some (y, p)
  | _ => none
theorem asIter_eq {v : Box} {x : List UInt8 × Nat} (h : asIter v = some x) : v = .iter x.1 x.2 := by
  cases v <;> simp only [asIter] at h <;> try (cases h; done)
  simp only [Option.some.injEq] at h
  subst h
  rfl

theorem asV_eq {g : GTy} {v : AV} {x : den g} (h : asV g v = some x) : v = .val g x := by
  cases v <;> simp only [asV] at h <;> try (cases h; done)
  split at h
  · rename_i e _
    subst e
    simp only [Option.some.injEq] at h
    rw [h]
  · cases h
theorem isTip_eq {b : Nat} {v : AV} (h : isTip b v = true) : v = .tip b := by
  cases v <;> simp only [isTip] at h <;> try (cases h; done)
  rw [Nat.eq_of_beq_eq_true h]
theorem isPtr_eq {b : Nat} {g : GTy} {v : AV} (h : isPtr b g v = true) : v = .ptr b g [] := by
  cases v <;> simp only [isPtr] at h <;> try (cases h; done)
  rename_i c k p
  cases p with
  | cons _ _ => simp at h
  | nil =>
    simp only [Bool.and_eq_true] at h
    rw [Nat.eq_of_beq_eq_true h.1]
    have h2 := h.2
    split at h2
    · rename_i e _; rw [e]
    · cases h2
theorem isNil_eq {v : AV} (h : isNil v = true) : v = .cst (.slice none 0 0) := by
  unfold isNil at h
  split at h
  · rfl
  · cases h
theorem asVar_eq {g : GTy} {v : Box} {x : den g} (h : asVar g v = some x) : v = .var g x := by
  cases v <;> simp only [asVar] at h <;> try (cases h; done)
  split at h
  · rename_i e _
    subst e
    simp only [Option.some.injEq] at h
    rw [h]
  · cases h
theorem asRow_eq {e : Nat} {g : GTy} {f : Bool} {v : Box} {x : List (den g)} (h : asRow e g f v = some x) : v = .row e g x f := by
  cases v <;> simp only [asRow] at h <;> try (cases h; done)
  rename_i d k xs f'
  cases hd : Nat.beq d e with
  | false => rw [hd] at h; cases hq : GTy.dec k g <;> rw [hq] at h <;> simp at h
  | true =>
    have := Nat.eq_of_beq_eq_true hd
    subst this
    rw [hd] at h
    cases hq : GTy.dec k g with
    | isFalse _ => rw [hq] at h; simp at h
    | isTrue q =>
      subst q
      rw [hq] at h
      cases f <;> cases f' <;> simp at h <;> rw [h]

def unT : (l : List (Nat × Sh)) → List (Nat × AV) → Option (ShT l)
  | [], m => match m with
    | [] => some ()
    | _ :: _ => none
  | (t, .val g) :: l, m => match m with
    | [] => none
    | (u, v) :: m => match Nat.beq u t, asV g v, unT l m with
      | true, some y, some r => some (y, r)
      | _, _, _ => none
  | (t, .tip b) :: l, m => match m with
    | [] => none
    | (u, v) :: m => match Nat.beq u t, isTip b v with
      | true, true => unT l m
      | _, _ => none
  | (t, .ptr b g) :: l, m => match m with
    | [] => none
    | (u, v) :: m => match Nat.beq u t, isPtr b g v with
      | true, true => unT l m
      | _, _ => none
  | (t, .nil) :: l, m => match m with
    | [] => none
    | (u, v) :: m => match Nat.beq u t, isNil v with
      | true, true => unT l m
      | _, _ => none
  | (t, .undef) :: l, m => match m with
    | [] => none
    | (u, v) :: m => match Nat.beq u t, isUndef v with
      | true, true => unT l m
      | _, _ => none

def unB : (l : List (Nat × BSh)) → List (Nat × Bool × Box) → Option (ShB l)
  | [], m => match m with
    | [] => some ()
    | _ :: _ => none
  | (b, .var g) :: l, m => match m with
    | [] => none
    | (c, d, B) :: m => match Nat.beq c b, d, asVar g B, unB l m with
      | true, false, some y, some r => some (y, r)
      | _, _, _, _ => none
  | (b, .row e g f) :: l, m => match m with
    | [] => none
    | (c, d, B) :: m => match Nat.beq c b, d, asRow e g f B, unB l m with
      | true, false, some y, some r => some (y, r)
      | _, _, _, _ => none
  | (b, .iter) :: l, m => match m with
    | [] => none
    | (c, d, B) :: m => match Nat.beq c b, d, asIter B, unB l m with
      | true, false, some y, some r => some (y, r)
      | _, _, _, _ => none

theorem unT_eq : ∀ {l : List (Nat × Sh)} {m : List (Nat × AV)} {x : ShT l}, unT l m = some x → m = mkT l x
  | [], [], _, _ => rfl
  | [], _ :: _, _, h => by simp [unT] at h
  | (t, .val g) :: l, [], _, h => by simp [unT] at h
  | (t, .val g) :: l, (u, v) :: m, x, h => by
    simp only [unT] at h
    split at h
    · rename_i y r h1 h2 h3
      simp only [Option.some.injEq] at h
      subst h
      rw [Nat.eq_of_beq_eq_true h1, asV_eq h2, unT_eq h3]
      rfl
    · cases h
  | (t, .tip b) :: l, [], _, h => by simp [unT] at h
  | (t, .tip b) :: l, (u, v) :: m, x, h => by
    simp only [unT] at h
    split at h
    · rename_i h1 h2
      rw [Nat.eq_of_beq_eq_true h1, isTip_eq h2, unT_eq h]
      rfl
    · cases h
  | (t, .ptr b g) :: l, [], _, h => by simp [unT] at h
  | (t, .ptr b g) :: l, (u, v) :: m, x, h => by
    simp only [unT] at h
    split at h
    · rename_i h1 h2
      rw [Nat.eq_of_beq_eq_true h1, isPtr_eq h2, unT_eq h]
      rfl
    · cases h
  | (t, .nil) :: l, [], _, h => by simp [unT] at h
  | (t, .nil) :: l, (u, v) :: m, x, h => by
    simp only [unT] at h
    split at h
    · rename_i h1 h2
      rw [Nat.eq_of_beq_eq_true h1, isNil_eq h2, unT_eq h]
      rfl
    · cases h
  | (t, .undef) :: l, [], _, h => by simp [unT] at h
  | (t, .undef) :: l, (u, v) :: m, x, h => by
    simp only [unT] at h
    split at h
    · rename_i h1 h2
      have h2' : v = .undef := by cases v <;> simp [isUndef] at h2 ⊢
      rw [Nat.eq_of_beq_eq_true h1, h2', unT_eq h]
      rfl
    · cases h

theorem unB_eq : ∀ {l : List (Nat × BSh)} {m : List (Nat × Bool × Box)} {x : ShB l}, unB l m = some x → m = mkB l x
  | [], [], _, _ => rfl
  | [], _ :: _, _, h => by simp [unB] at h
  | (t, .var g) :: l, [], _, h => by simp [unB] at h
  | (t, .var g) :: l, (u, d, v) :: m, x, h => by
    simp only [unB] at h
    split at h
    · rename_i y r h1 h3 h4
      simp only [Option.some.injEq] at h
      subst h
      rw [Nat.eq_of_beq_eq_true h1, asVar_eq h3, unB_eq h4]
      rfl
    · cases h
  | (t, .row e g f) :: l, [], _, h => by simp [unB] at h
  | (t, .row e g f) :: l, (u, d, v) :: m, x, h => by
    simp only [unB] at h
    split at h
    · rename_i y r h1 h3 h4
      simp only [Option.some.injEq] at h
      subst h
      rw [Nat.eq_of_beq_eq_true h1, asRow_eq h3, unB_eq h4]
      rfl
    · cases h
  | (t, .iter) :: l, [], _, h => by simp [unB] at h
  | (t, .iter) :: l, (u, d, v) :: m, x, h => by
    simp only [unB] at h
    split at h
    · rename_i y r h1 h3 h4
      simp only [Option.some.injEq] at h
      subst h
      rw [Nat.eq_of_beq_eq_true h1, asIter_eq h3, unB_eq h4]
      rfl
    · cases h

def mkS (ts : List (Nat × Sh)) (bs : List (Nat × BSh)) (x : ShT ts × ShB bs) : St := ⟨mkT ts x.1, mkB bs x.2⟩
def unS (ts : List (Nat × Sh)) (bs : List (Nat × BSh)) (s : St) : Option (ShT ts × ShB bs) :=
  match unT ts s.tmps, unB bs s.boxes with
  | some x, some y => some (x, y)
  | _, _ => none
theorem unS_eq {ts : List (Nat × Sh)} {bs : List (Nat × BSh)} {s : St} {x : ShT ts × ShB bs} (h : unS ts bs s = some x) : s = mkS ts bs x := by
  unfold unS at h
  split at h
  · rename_i a b h1 h2
    simp only [Option.some.injEq] at h
    subst h
    obtain ⟨t, b'⟩ := s
    simp only at h1 h2
    rw [unT_eq h1, unB_eq h2]
    rfl
  · cases h

/-- A loop, told. -/
structure LoopD where
  prom : List (Nat × Nat × Nat × GTy)
  ts : List (Nat × Sh)
  bs : List (Nat × BSh)
  pre : ShT ts × ShB bs → Prop
  out : ShT ts × ShB bs → Tree (Ex × (ShT ts × ShB bs))

def LoopD.spec (D : LoopD) : LoopSpec :=
  { prom := D.prom, keep := D.ts.map (·.1), boxes := D.bs.map (·.1),
    sum := fun s => match unS D.ts D.bs s with
      | some x => .need (D.pre x) ((D.out x).bind fun p => .leaf (p.1, mkS D.ts D.bs p.2))
      | none => .stuck }

/-- What is told of a loop is so. -/
def LoopOK (C : Ctx) (L : LoopSpec) (body : Code) : Prop := ∀ (s : St) (F : Ex × St → Prop), (L.sum s).holds F → ∃ n, (iter L (ev C body) n s).holds F

theorem Tree.bind_assoc {α β γ : Type} (f : α → Tree β) (g : β → Tree γ) : ∀ t : Tree α, (t.bind f).bind g = t.bind fun a => (f a).bind g
  | .leaf _ => rfl
  | .br _ t e => by simp only [Tree.bind, Tree.bind_assoc f g t, Tree.bind_assoc f g e]
  | .need _ t => by simp only [Tree.bind, Tree.bind_assoc f g t]
  | .stuck => rfl

def cut (L : LoopSpec) (p : Ex × St) : Tree (Ex × St) :=
  match restrict L p.2 with
  | none => .stuck
  | some s' => .leaf (p.1, s')

theorem iter_succ (L : LoopSpec) (f : St → Tree (Ex × St)) (n : Nat) (s : St) : iter L f (n + 1) s = ((f s).bind (cut L)).bind fun p => match p.1 with
    | .normal => iter L f n p.2
    | e => .leaf (e, p.2) := by
  rw [Tree.bind_assoc]
  simp only [iter]
  congr 1
  funext ⟨e, s'⟩
  unfold cut
  simp only
  cases restrict L s' with
  | none => rfl
  | some s'' => cases e <;> simp only [Tree.bind]

/-- A round, read back by the loop's shape. -/
def roundOf (C : Ctx) (D : LoopD) (body : Code) (x : ShT D.ts × ShB D.bs) : Tree (Ex × Option (ShT D.ts × ShB D.bs)) :=
  ((ev C body (mkS D.ts D.bs x)).bind (cut D.spec)).bind fun p => .leaf (p.1, unS D.ts D.bs p.2)

section
variable {C : Ctx} {body : Code} {D : LoopD}

theorem loopD_ok {step : ShT D.ts × ShB D.bs → Tree (Ex × Option (ShT D.ts × ShB D.bs))} (hstep : ∀ x, roundOf C D body x = step x) (μ : ShT D.ts × ShB D.bs → Nat)
    (h : ∀ x, D.pre x → (step x).holds fun p => ∃ y, p.2 = some y ∧ match p.1 with
      | .normal => D.pre y ∧ μ y < μ x ∧ ∀ G, (D.out x).holds G → (D.out y).holds G
      | e => ∀ G, (D.out x).holds G → G (e, y)) : LoopOK C D.spec body := by
  intro s F hF
  simp only [LoopD.spec] at hF
  split at hF
  · rename_i x hx
    have hs := unS_eq hx
    subst hs
    obtain ⟨hp, hF⟩ := hF
    have hF' := holds_bind.1 hF
    have main : ∀ n x, μ x < n → D.pre x → (D.out x).holds (fun p => F (p.1, mkS D.ts D.bs p.2)) → (iter D.spec (ev C body) n (mkS D.ts D.bs x)).holds F := by
      intro n
      induction n with
      | zero => intro x hx; omega
      | succ n ih =>
        intro x hx hp ho
        rw [iter_succ]
        have hr := h x hp
        rw [← hstep] at hr
        refine holds_bind.2 (holds_mono ?_ (holds_bind.1 hr))
        rintro ⟨e, s'⟩ hy
        simp only [Tree.holds] at hy
        obtain ⟨y, h1, h2⟩ := hy
        have hs := unS_eq h1
        subst hs
        cases e with
        | normal =>
          simp only at h2 ⊢
          exact ih y (by omega) h2.1 (h2.2.2 _ ho)
        | exit id => exact h2 _ ho
        | ret => exact h2 _ ho
        | die v => exact h2 _ ho
    exact ⟨μ x + 1, main _ x (by omega) hp hF'⟩
  · exact hF.elim

/-- A loop that ends one way, told by a function. -/
theorem loopD_ok1 {step : ShT D.ts × ShB D.bs → Tree (Ex × Option (ShT D.ts × ShB D.bs))} {o : ShT D.ts × ShB D.bs → Ex × (ShT D.ts × ShB D.bs)} (ho : ∀ x, D.out x = .leaf (o x))
    (hstep : ∀ x, roundOf C D body x = step x) (μ : ShT D.ts × ShB D.bs → Nat)
    (h : ∀ x, D.pre x → (step x).holds fun p => ∃ y, p.2 = some y ∧ match p.1 with
      | .normal => D.pre y ∧ μ y < μ x ∧ o y = o x
      | e => o x = (e, y)) : LoopOK C D.spec body := by
  refine loopD_ok hstep μ fun x hp => holds_mono ?_ (h x hp)
  rintro ⟨e, z⟩ ⟨y, h1, hy⟩
  refine ⟨y, h1, ?_⟩
  cases e with
  | normal => exact ⟨hy.1, hy.2.1, fun G hG => by rw [ho] at hG ⊢; rw [hy.2.2]; exact hG⟩
  | exit id => intro G hG; rw [ho] at hG; simp only at hy; rw [← hy]; exact hG
  | ret => intro G hG; rw [ho] at hG; simp only at hy; rw [← hy]; exact hG
  | die v => intro G hG; rw [ho] at hG; simp only at hy; rw [← hy]; exact hG
end

/-! A function's loops -/

def loopsOf : Code → List (Nat × Code)
  | .seq a b => loopsOf a ++ loopsOf b
  | .cond _ a b => loopsOf a ++ loopsOf b
  | .loop c => loopsOf c
  | .scope c => loopsOf c
  | .block id c => match c with
    | .loop body => (id, body) :: loopsOf body
    | c => loopsOf c
  | _ => []
def loopB (id : Nat) (c : Code) : Code := (lk id (loopsOf c)).getD .skip

theorem lam_of {C : Ctx} : ∀ c : Code, (∀ id body, (id, body) ∈ loopsOf c → ∀ L, C.Λ id = some L → LoopOK C L body) → LamOK C c
  | .seq a b, h => ⟨lam_of a fun id body hm => h id body (by simp [loopsOf, hm]), lam_of b fun id body hm => h id body (by simp [loopsOf, hm])⟩
  | .cond _ a b, h => ⟨lam_of a fun id body hm => h id body (by simp [loopsOf, hm]), lam_of b fun id body hm => h id body (by simp [loopsOf, hm])⟩
  | .loop c, h => lam_of c h
  | .scope c, h => lam_of c h
  | .block id (.loop c), h => ⟨lam_of c fun id body hm => h id body (by simp [loopsOf, hm]), fun body hb L hL => by
      injection hb with hb
      subst hb
      exact h id c (by simp [loopsOf]) L hL⟩
  | .block id (.seq a b), h => ⟨lam_of (.seq a b) (by simpa [loopsOf] using h), fun body hb => nomatch hb⟩
  | .block id (.cond x a b), h => ⟨lam_of (.cond x a b) (by simpa [loopsOf] using h), fun body hb => nomatch hb⟩
  | .block id (.block j c), h => ⟨lam_of (.block j c) (by simpa [loopsOf] using h), fun body hb => nomatch hb⟩
  | .block id .skip, h | .block id (.region ..), h | .block id (.rangeFunc ..), h | .block id (.exit _), h | .block id (.label _), h | .block id (.goto _), h | .block id .ret, h | .block id (.refuse _), h => ⟨trivial, fun body hb => nomatch hb⟩
  | .block id (.scope c), h => ⟨lam_of (.scope c) (by simpa [loopsOf] using h), fun body hb => nomatch hb⟩
  | .skip, _ | .region .., _ | .rangeFunc .., _ | .exit _, _ | .label _, _ | .goto _, _ | .ret, _ | .refuse _, _ => trivial

/-! A loop whose rounds are carried out one by one -/

theorem runOps_congr {C C' : Ctx} (ht : C.τ = C'.τ) (hg : C.Γ = C'.Γ) : ∀ (l : List Oper) (s : St), runOps C l s = runOps C' l s
  | [], s => rfl
  | o :: l, s => by
    simp only [runOps, ht, hg]
    cases opEff C'.τ C'.Γ (o.dst.getD 0) o (s.args o) with
    | none => rfl
    | some e => simp only [runOps_congr ht hg l]
theorem effs_congr {C C' : Ctx} (ht : C.τ = C'.τ) (hg : C.Γ = C'.Γ) : ∀ (l : List Oper) (s : St), effs C l s = effs C' l s
  | [], s => rfl
  | o :: l, s => by
    simp only [effs, ht, hg]
    cases opEff C'.τ C'.Γ (o.dst.getD 0) o (s.args o) with
    | none => rfl
    | some e => simp only [effs_congr ht hg l]
theorem runBr_congr {C C' : Ctx} (ht : C.τ = C'.τ) (hg : C.Γ = C'.Γ) (hd : C.dec = C'.dec) (all : List Oper) : ∀ (l : List Oper) (s : St), runBr C all l s = runBr C' all l s
  | [], s => rfl
  | o :: l, s => by
    have ih := runBr_congr ht hg hd all l
    simp only [runBr, ht, hg, hd, ih]
theorem isDie_congr {C C' : Ctx} (hΔ : C.Δ = C'.Δ) (o : Oper) : isDie C o = isDie C' o := by
  unfold isDie
  rw [hΔ]
theorem dieOf_congr {C C' : Ctx} (hΔ : C.Δ = C'.Δ) (o : Oper) (l : List Arg) : dieOf C o l = dieOf C' o l := by
  unfold dieOf
  rw [hΔ]
theorem runOpsD_congr {C C' : Ctx} (ht : C.τ = C'.τ) (hg : C.Γ = C'.Γ) (hΔ : C.Δ = C'.Δ) : ∀ (l : List Oper) (s : St), runOpsD C l s = runOpsD C' l s
  | [], s => rfl
  | o :: l, s => by
    have ih : runOpsD C l = runOpsD C' l := funext (runOpsD_congr ht hg hΔ l)
    simp only [runOpsD, contD, ht, hg, dieOf_congr hΔ, ih]
theorem dieL_congr {C C' : Ctx} (hΔ : C.Δ = C'.Δ) : ∀ (l : List Oper) (r : List (St × Eff)), dieL C l r = dieL C' l r
  | [], r => by simp only [dieL]
  | _ :: _, [] => by simp only [dieL]
  | o :: l, x :: r => by simp only [dieL, dieOf_congr hΔ, dieL_congr hΔ l r]
theorem dieOK_congr {C C' : Ctx} (hΔ : C.Δ = C'.Δ) : ∀ (l : List Oper) (r : List (St × Eff)), dieOK C l r = dieOK C' l r
  | [], r => by simp only [dieOK]
  | _ :: _, [] => by simp only [dieOK]
  | o :: l, x :: r => by simp only [dieOK, dieOf_congr hΔ, dieOK_congr hΔ l r]
theorem effsNeedD_congr {C C' : Ctx} (hΔ : C.Δ = C'.Δ) (all : List Oper) : ∀ (l : List Oper) (r : List (St × Eff)) (t : Tree (Ex × St)), effsNeedD C all l r t = effsNeedD C' all l r t
  | [], r, t => by simp only [effsNeedD]
  | _ :: _, [], t => by simp only [effsNeedD]
  | o :: l, x :: r, t => by simp only [effsNeedD, dieOf_congr hΔ, effsNeedD_congr hΔ all l r t]
theorem regD_congr {C C' : Ctx} (ht : C.τ = C'.τ) (hg : C.Γ = C'.Γ) (hΔ : C.Δ = C'.Δ) (l : List Oper) (d : Bool) (s : St) : regD C l d s = regD C' l d s := by
  simp only [regD, runDrawD, runOpsD_congr ht hg hΔ, effs_congr ht hg, dieL_congr hΔ, dieOK_congr hΔ, effsNeedD_congr hΔ]
theorem ev_congr {C C' : Ctx} (ht : C.τ = C'.τ) (hg : C.Γ = C'.Γ) (hd : C.dec = C'.dec) (hΔ : C.Δ = C'.Δ) : ∀ (c : Code), (∀ id, id ∈ (loopsOf c).map (·.1) → C.Λ id = C'.Λ id) → ∀ s, ev C c s = ev C' c s
  | .region _ ops draw, h, s => by
    have hi : isDie C = isDie C' := funext (isDie_congr hΔ)
    simp only [ev, hi, regD_congr ht hg hΔ, runDraw, runOps_congr ht hg, effs_congr ht hg, runBr_congr ht hg hd]
  | .seq a b, h, s => by
    have ha := ev_congr ht hg hd hΔ a (fun id hm => h id (by simp only [loopsOf, List.map_append, List.mem_append]; exact .inl hm))
    have hb := ev_congr ht hg hd hΔ b (fun id hm => h id (by simp only [loopsOf, List.map_append, List.mem_append]; exact .inr hm))
    simp only [ev, ha]
    congr 1
    funext ⟨e, s'⟩
    cases e <;> simp only [hb]
  | .cond c a b, h, s => by
    have ha := ev_congr ht hg hd hΔ a (fun id hm => h id (by simp only [loopsOf, List.map_append, List.mem_append]; exact .inl hm))
    have hb := ev_congr ht hg hd hΔ b (fun id hm => h id (by simp only [loopsOf, List.map_append, List.mem_append]; exact .inr hm))
    simp only [ev, ha, hb, hd]
  | .block id (.loop body), h, s => by
    have := h id (by simp [loopsOf])
    simp only [ev, this]
  | .block id (.seq a b), h, s => by simp only [ev]; rw [← ev, ← ev, ev_congr ht hg hd hΔ (.seq a b) (by simpa [loopsOf] using h)]
  | .block id (.cond x a b), h, s => by
    have := ev_congr ht hg hd hΔ (.cond x a b) (by simpa [loopsOf] using h) s
    simp only [ev] at this ⊢
    rw [this]
  | .block id (.block j c), h, s => by
    have := ev_congr ht hg hd hΔ (.block j c) (by simpa [loopsOf] using h) s
    show (ev C (.block j c) s).bind _ = (ev C' (.block j c) s).bind _
    rw [this]
  | .block id (.region i ops d), h, s => by
    have := ev_congr ht hg hd hΔ (.region i ops d) (by simp [loopsOf]) s
    show (ev C (.region i ops d) s).bind _ = (ev C' (.region i ops d) s).bind _
    rw [this]
  | .block id (.scope c), h, s => by
    have := ev_congr ht hg hd hΔ (.scope c) (by simpa [loopsOf] using h) s
    show (ev C (.scope c) s).bind _ = (ev C' (.scope c) s).bind _
    rw [this]
  | .scope c, h, s => by simp only [ev]; exact ev_congr ht hg hd hΔ c h s
  | .block id .skip, h, s | .block id (.rangeFunc ..), h, s | .block id (.exit _), h, s | .block id (.label _), h, s | .block id (.goto _), h, s | .block id .ret, h, s | .block id (.refuse _), h, s => by simp only [ev]
  | .loop c, h, s => by simp only [ev]
  | .skip, _, _ | .rangeFunc .., _, _ | .exit _, _, _ | .label _, _, _ | .goto _, _, _ | .ret, _, _ | .refuse _, _, _ => by simp only [ev]

theorem iter_congr {L L' : LoopSpec} (hk : L.keep = L'.keep) (hb : L.boxes = L'.boxes) {f f' : St → Tree (Ex × St)} (hf : ∀ s, f s = f' s) : ∀ n s, iter L f n s = iter L' f' n s
  | 0, s => rfl
  | n + 1, s => by
    have hr : ∀ s, restrict L s = restrict L' s := fun s => by unfold restrict; rw [hk, hb]
    simp only [iter, hf, hr, iter_congr hk hb hf n]

def rounds (C : Ctx) (body : Code) (prom : List (Nat × Nat × Nat × GTy)) (keep boxes : List Nat) (n : Nat) : LoopSpec :=
  { prom := prom, keep := keep, boxes := boxes, sum := fun s => iter { prom := [], keep := keep, boxes := boxes, sum := fun _ => .stuck } (ev C body) n s }

theorem rounds_ok {C C' : Ctx} {body : Code} {prom : List (Nat × Nat × Nat × GTy)} {keep boxes : List Nat} {n : Nat} (ht : C.τ = C'.τ) (hg : C.Γ = C'.Γ) (hd : C.dec = C'.dec) (hl : ∀ id, id ∈ (loopsOf body).map (·.1) → C.Λ id = C'.Λ id) (hΔ : C.Δ = C'.Δ := by rfl) :
    LoopOK C (rounds C' body prom keep boxes n) body := by
  intro s F hF
  refine ⟨n, ?_⟩
  have : ∀ m t, iter (rounds C' body prom keep boxes n) (ev C body) m t = iter { prom := [], keep := keep, boxes := boxes, sum := fun _ => .stuck } (ev C' body) m t := iter_congr (L := rounds C' body prom keep boxes n) (L' := { prom := [], keep := keep, boxes := boxes, sum := fun _ => .stuck }) rfl rfl (ev_congr ht hg hd hΔ body hl)
  rw [this]
  exact hF

theorem rounds_ok0 {C C' : Ctx} {body : Code} {prom : List (Nat × Nat × Nat × GTy)} {keep boxes : List Nat} {n : Nat} (ht : C.τ = C'.τ) (hg : C.Γ = C'.Γ) (hd : C.dec = C'.dec) (hl : (loopsOf body).isEmpty = true) (hΔ : C.Δ = C'.Δ := by rfl) :
    LoopOK C (rounds C' body prom keep boxes n) body :=
  rounds_ok ht hg hd (fun id hm => by
    rw [List.isEmpty_iff.1 hl] at hm
    simp at hm) hΔ

theorem lk_mem {α : Type} {k : Nat} {v : α} : ∀ {l : List (Nat × α)}, nodupN (l.map (·.1)) = true → (k, v) ∈ l → lk k l = some v
  | (j, u) :: l, hn, hm => by
    simp only [List.map_cons, nodupN, Bool.and_eq_true, Bool.not_eq_true'] at hn
    rcases List.mem_cons.1 hm with e | hm
    · simp only [Prod.mk.injEq] at e
      obtain ⟨rfl, rfl⟩ := e
      simp [lk]
    · have ih := lk_mem hn.2 hm
      simp only [lk]
      cases hb : Nat.beq j k with
      | false => exact ih
      | true =>
        have := Nat.eq_of_beq_eq_true hb
        subst this
        have : memN j (l.map (·.1)) = true := memN_iff.2 (List.mem_map.2 ⟨_, hm, rfl⟩)
        rw [this] at hn
        simp at hn
  | [], _, hm => by cases hm

theorem lk_all {α : Type} {Q : Nat → α → Prop} : ∀ {l : List (Nat × α)}, (∀ p ∈ l, Q p.1 p.2) → ∀ {k v}, lk k l = some v → Q k v
  | (j, u) :: l, h, k, v, hk => by
    simp only [lk] at hk
    cases hb : Nat.beq j k with
    | true =>
      rw [hb] at hk
      simp only [Option.some.injEq] at hk
      have := Nat.eq_of_beq_eq_true hb
      subst this
      subst hk
      exact h (j, u) (by simp)
    | false =>
      rw [hb] at hk
      exact lk_all (fun p hp => h p (by simp [hp])) hk
  | [], _, _, _, hk => by simp [lk] at hk

def fnOf (P : Program) (f : Nat) : Func := (P.funcs[f]?).getD default
theorem fnOf_eq {P : Program} {f : Nat} (h : (P.funcs[f]?).isSome = true) : P.funcs[f]? = some (fnOf P f) := by
  unfold fnOf
  cases hh : P.funcs[f]? with
  | none => rw [hh] at h; cases h
  | some x => rfl
def bodyOf (fn : Func) : Code := fn.body.getD .skip
theorem bodyOf_eq {fn : Func} (h : fn.body.isSome = true) : fn.body = some (bodyOf fn) := by
  unfold bodyOf
  cases hh : fn.body with
  | none => rw [hh] at h; cases h
  | some x => rfl

theorem ctrs_nil {P : Program} : CtrsOK P (fun f => lk f []) := fun f c h => by simp [lk] at h
theorem ctrs_cons {P : Program} {n : Nat} {c : Ctr} {l : List (Nat × Ctr)} (h : CtrOK P n c) (t : CtrsOK P (fun f => lk f l)) : CtrsOK P (fun f => lk f ((n, c) :: l)) := fun f c' h' => by
  simp only [lk] at h'
  cases hb : Nat.beq n f with
  | true =>
    rw [hb] at h'
    simp only [Option.some.injEq] at h'
    have := Nat.eq_of_beq_eq_true hb
    subst this
    subst h'
    exact h
  | false =>
    rw [hb] at h'
    exact t f c' h'

theorem lp_nil {C : Ctx} {b : Code} : ∀ p ∈ ([] : List (Nat × LoopSpec)), LoopOK C p.2 (loopB p.1 b) := fun p hp => by cases hp
theorem lp_cons {C : Ctx} {b : Code} {id : Nat} {L : LoopSpec} {l : List (Nat × LoopSpec)} (h : LoopOK C L (loopB id b)) (t : ∀ p ∈ l, LoopOK C p.2 (loopB p.1 b)) : ∀ p ∈ (id, L) :: l, LoopOK C p.2 (loopB p.1 b) := fun p hp => by
  rcases List.mem_cons.1 hp with rfl | hp
  · exact h
  · exact t p hp

/-- What a tree comes to. -/
def Tree.val {α : Type} (d : α) : Tree α → α
  | .leaf a => a
  | .br c t e => bif c then t.val d else e.val d
  | .need _ t => t.val d
  | .stuck => d
/-- Whatever way is taken, what must hold does. -/
def Tree.safe {α : Type} : Tree α → Prop
  | .leaf _ => True
  | .br c t e => (c = true → t.safe) ∧ (c = false → e.safe)
  | .need p t => p ∧ t.safe
  | .stuck => False
theorem holds_val {α : Type} {d a : α} : ∀ {t : Tree α}, t.val d = a → t.safe → t.holds (fun y => y = a)
  | .leaf _, h, _ => h
  | .br c t e, h, hs => by
    refine ⟨fun hc => holds_val (d := d) (by simpa [Tree.val, hc] using h) (hs.1 hc), fun hc => holds_val (d := d) (by simpa [Tree.val, hc] using h) (hs.2 hc)⟩
  | .need _ t, h, hs => ⟨hs.1, holds_val (d := d) h hs.2⟩
  | .stuck, _, hs => hs.elim

/-- Contracts, and loops, by their numbers. -/
def mkC (τ : Tys) (G : List (Nat × Ctr)) (Λ : List (Nat × LoopSpec)) (d : Bool := false) (D : List (Nat × DCtr) := []) : Ctx := ⟨τ, fun f => lk f G, fun id => lk id Λ, d, fun f => lk f D⟩
theorem dsOK_nil {P : Program} {C : Ctx} (h : C.Δ = fun _ => none) : DsOK P C := fun f d hd => by
  rw [h] at hd
  cases hd

/-- A function keeps its contract. -/
theorem fun_okX (d : Bool) {P : Program} {τ : Tys} {G : List (Nat × Ctr)} {Λ : List (Nat × LoopSpec)} (TOK : TysOK P τ) (GC : CtrsOK P (fun f => lk f G)) (hmix : P.follows .mixedOrders = true) {f : Nat} {c : Ctr}
    (hf : (P.funcs[f]?).isSome = true) (hname : ((fnOf P f).name == "runtime.NumGoroutine") = false) (hbody : (fnOf P f).body.isSome = true) (hnd : nodupN ((loopsOf (bodyOf (fnOf P f))).map (·.1)) = true)
    (hloops : ∀ p ∈ Λ, LoopOK (mkC τ G Λ d) p.2 (loopB p.1 (bodyOf (fnOf P f))))
    (h : ∀ x : dens c.args, wtD c.args x → (∀ p, c.pre = some p → p x) → (evFn (mkC τ G Λ d) (fnOf P f) (resL c.args x) c.res).holds (fun y => y = c.fn x)) : CtrOK P f c := by
  refine ctr_of_ev (C := mkC τ G Λ d) (fn := fnOf P f) TOK GC (dsOK_nil rfl) hmix (fnOf_eq hf) hname (bodyOf_eq hbody) (lam_of _ fun id body hm L hL => ?_) h
  have hk := lk_mem hnd hm
  have := lk_all (Q := fun id L => LoopOK (mkC τ G Λ d) L (loopB id (bodyOf (fnOf P f)))) hloops hL
  unfold loopB at this
  rw [hk] at this
  exact this
/-- A function keeps its contract. -/
theorem fun_ok {P : Program} {τ : Tys} {G : List (Nat × Ctr)} {Λ : List (Nat × LoopSpec)} (TOK : TysOK P τ) (GC : CtrsOK P (fun f => lk f G)) (hmix : P.follows .mixedOrders = true) {f : Nat} {c : Ctr}
    (hf : (P.funcs[f]?).isSome = true) (hname : ((fnOf P f).name == "runtime.NumGoroutine") = false) (hbody : (fnOf P f).body.isSome = true) (hnd : nodupN ((loopsOf (bodyOf (fnOf P f))).map (·.1)) = true)
    (hloops : ∀ p ∈ Λ, LoopOK (mkC τ G Λ) p.2 (loopB p.1 (bodyOf (fnOf P f))))
    (h : ∀ x : dens c.args, wtD c.args x → (∀ p, c.pre = some p → p x) → (evFn (mkC τ G Λ) (fnOf P f) (resL c.args x) c.res).holds (fun y => y = c.fn x)) : CtrOK P f c :=
  fun_okX false TOK GC hmix hf hname hbody hnd hloops h
theorem ds_nil {P : Program} {G : List (Nat × Ctr)} : ∀ f d, lk f ([] : List (Nat × DCtr)) = some d → lk f G = some d.ctr ∧ DCtrOK P f d := fun f d h => by simp [lk] at h
/-- … of those that may panic. -/
theorem ds_cons {P : Program} {G : List (Nat × Ctr)} {n : Nat} {d : DCtr} {D : List (Nat × DCtr)} (h : DCtrOK P n d) (hG : lk n G = some d.ctr) (t : ∀ f d, lk f D = some d → lk f G = some d.ctr ∧ DCtrOK P f d) :
    ∀ f d', lk f ((n, d) :: D) = some d' → lk f G = some d'.ctr ∧ DCtrOK P f d' := fun f d' h' => by
  simp only [lk] at h'
  cases hb : Nat.beq n f with
  | true =>
    rw [hb] at h'
    simp only [Option.some.injEq] at h'
    have := Nat.eq_of_beq_eq_true hb
    subst this
    subst h'
    exact ⟨hG, h⟩
  | false =>
    rw [hb] at h'
    exact t f d' h'
/-- A function that may panic keeps its contract. -/
theorem funD_ok {P : Program} {τ : Tys} {G : List (Nat × Ctr)} {Λ : List (Nat × LoopSpec)} {D : List (Nat × DCtr)} (TOK : TysOK P τ) (GC : CtrsOK P (fun f => lk f G)) (DK : ∀ f d, lk f D = some d → lk f G = some d.ctr ∧ DCtrOK P f d) (hmix : P.follows .mixedOrders = true) {f : Nat} {c : DCtr}
    (hf : (P.funcs[f]?).isSome = true) (hname : ((fnOf P f).name == "runtime.NumGoroutine") = false) (hbody : (fnOf P f).body.isSome = true) (hnd : nodupN ((loopsOf (bodyOf (fnOf P f))).map (·.1)) = true)
    (hloops : ∀ p ∈ Λ, LoopOK (mkC τ G Λ false D) p.2 (loopB p.1 (bodyOf (fnOf P f))))
    (h : ∀ x : dens c.args, wtD c.args x → c.pre x → (evFnD (mkC τ G Λ false D) (fnOf P f) (resL c.args x) c.res).holds (fun y => y = bif c.die x then .inl (c.val x) else .inr (c.fn x))) : DCtrOK P f c := by
  refine dctr_of_ev (C := mkC τ G Λ false D) (fn := fnOf P f) TOK GC DK hmix (fnOf_eq hf) hname (bodyOf_eq hbody) (lam_of _ fun id body hm L hL => ?_) h
  have hk := lk_mem hnd hm
  have := lk_all (Q := fun id L => LoopOK (mkC τ G Λ false D) L (loopB id (bodyOf (fnOf P f)))) hloops hL
  unfold loopB at this
  rw [hk] at this
  exact this
end Go.Ev
/- The types of this seat's program, and what holds of it as a whole. -/
namespace Go.Ev.D
open Go.Proofs
def tyL : List (Option TInfo) := [
  none,
  none,
  some ⟨.int .i64, 0, 8, 0⟩,
  some ⟨.int .i64, 0, 8, 0⟩,
  some ⟨.bool, 0, 1, 0⟩,
  some ⟨.int .u8, 0, 1, 0⟩,
  some ⟨.int .u8, 0, 1, 0⟩,
  none,
  none,
  some ⟨.str, 0, 16, 0⟩,
  some ⟨.str, 0, 16, 0⟩,
  some ⟨.str, 0, 16, 0⟩,
  some ⟨.int .u64, 0, 8, 0⟩,
  none,
  none,
  none,
  none,
  none,
  none,
  none,
  some ⟨.err, 0, 16, 0⟩,
  some ⟨.int .i32, 0, 4, 0⟩,
  some ⟨.arr 8 (.int .i64), 0, 64, 0⟩,
  some ⟨.arr 2 (.int .i64), 0, 16, 0⟩,
  none,
  none,
  none,
  none,
  none,
  none,
  none,
  some ⟨.sl (.arr 2 (.int .i64)), 0, 16, 23⟩,
  none,
  some ⟨.int .u32, 0, 4, 0⟩,
  some ⟨.prod (.int .u32) (.int .i64), 2, 16, 0⟩,
  some ⟨.prod (.int .u32) (.int .i64), 2, 16, 0⟩,
  some ⟨.arr 16 (.prod (.int .u32) (.int .i64)), 0, 256, 0⟩,
  some ⟨.arr 16 (.prod (.int .u32) (.int .i64)), 0, 256, 0⟩,
  none,
  none,
  none,
  none,
  none,
  none,
  some ⟨.int .u64, 0, 8, 0⟩,
  none,
  some ⟨.int .u64, 0, 8, 0⟩,
  some ⟨.arr 16 (.int .u32), 0, 64, 0⟩,
  some ⟨.prod (.int .i64) (.arr 16 (.int .u32)), 2, 72, 0⟩,
  some ⟨.prod (.int .i64) (.arr 16 (.int .u32)), 2, 72, 0⟩,
  some ⟨.int .i64, 0, 8, 0⟩,
  none,
  none,
  some ⟨.sl (.int .i64), 0, 8, 3⟩,
  none,
  none,
  none,
  none,
  none,
  none,
  some ⟨.sl (.prod .bool (.prod (.int .i64) (.int .u32))), 0, 24, 62⟩,
  some ⟨.prod .bool (.prod (.int .i64) (.int .u32)), 3, 24, 0⟩,
  some ⟨.prod .bool (.prod (.int .i64) (.int .u32)), 3, 24, 0⟩,
  none,
  some ⟨.prod (.int .i64) (.prod (.int .i64) (.int .i64)), 3, 24, 0⟩,
  some ⟨.prod (.int .i64) (.prod (.int .i64) (.int .i64)), 3, 24, 0⟩,
  none,
  none,
  none,
  none,
  none,
  none,
  some ⟨.prod (.int .i64) (.prod (.int .i64) (.prod (.int .i64) (.int .i64))), 4, 32, 0⟩,
  some ⟨.prod (.int .i64) (.prod (.int .i64) (.prod (.int .i64) (.int .i64))), 4, 32, 0⟩,
  some ⟨.prod (.int .i64) (.prod (.prod (.int .i64) (.prod (.int .i64) (.prod (.int .i64) (.int .i64)))) (.prod (.int .i64) (.arr 16 (.int .u32)))), 3, 112, 0⟩,
  some ⟨.prod (.int .i64) (.prod (.prod (.int .i64) (.prod (.int .i64) (.prod (.int .i64) (.int .i64)))) (.prod (.int .i64) (.arr 16 (.int .u32)))), 3, 112, 0⟩,
  none,
  none,
  none,
  none,
  none,
  none,
  none,
  none,
  none,
  none,
  none,
  none,
  none,
  none,
  none,
  none,
  none,
  some ⟨.sl (.prod (.int .i64) (.prod (.prod (.int .i64) (.prod (.int .i64) (.prod (.int .i64) (.int .i64)))) (.prod (.int .i64) (.arr 16 (.int .u32))))), 0, 112, 75⟩,
  none,
  none,
  none,
  none,
  none,
  none,
  some ⟨.sl (.arr 8 (.int .i64)), 0, 64, 22⟩,
  some ⟨.arr 8 .str, 0, 128, 0⟩,
  none,
  none,
  none,
  none,
  none,
  none,
  none,
  none,
  none,
  some ⟨.sl (.int .u8), 0, 1, 5⟩,
  none,
  none,
  some ⟨.err, 0, 16, 0⟩,
  some ⟨.err, 0, 16, 0⟩,
  none,
  none,
  none,
  some ⟨.sl .str, 0, 16, 9⟩,
  none,
  none,
  none,
  none,
  some ⟨.arr 4 (.int .i64), 0, 32, 0⟩,
  none,
  none,
  none,
  none,
  none,
  none,
  none,
  none,
  none,
  none,
  none,
  none,
  none,
  none,
  some ⟨.arr 16 (.int .i64), 0, 128, 0⟩,
  some ⟨.arr 16 (.arr 16 (.int .i64)), 0, 2048, 0⟩,
  none,
  some ⟨.arr 5 .str, 0, 80, 0⟩,
  none,
  none,
  none,
  none,
  none,
  none,
  none,
  none,
  none,
  some ⟨.arr 24 (.int .u8), 0, 24, 0⟩,
  none,
  none,
  none,
  none,
  none,
  none,
  some ⟨.int .i64, 0, 8, 0⟩,
  none,
  none,
  none,
  none,
  none,
  some ⟨.arr 20 (.int .u64), 0, 160, 0⟩,
  some ⟨.arr 65 (.int .u8), 0, 65, 0⟩,
  some ⟨.arr 32 (.int .u8), 0, 32, 0⟩,
  some ⟨.arr 64 (.int .u8), 0, 64, 0⟩,
  none,
  none,
  none,
  none,
  none,
  none,
  none,
  none,
  none,
  none,
  some ⟨.prod .str .unit, 1, 16, 0⟩,
  some ⟨.prod .str .unit, 1, 16, 0⟩,
  none,
  none,
  some ⟨.arr 256 (.int .u8), 0, 256, 0⟩,
  some ⟨.prod (.int .u8) (.int .u8), 2, 2, 0⟩,
  some ⟨.prod (.int .u8) (.int .u8), 2, 2, 0⟩,
  some ⟨.arr 16 (.prod (.int .u8) (.int .u8)), 0, 32, 0⟩,
  none,
  none,
  none,
  none,
  none,
  some ⟨.int .u8, 0, 1, 0⟩,
  some ⟨.int .u8, 0, 1, 0⟩,
  none,
  some ⟨.int .i32, 0, 4, 0⟩,
  some ⟨.int .i32, 0, 4, 0⟩,
  none,
  none]

def tys : Tys := fun t => tyL.getD t none
theorem tysOK : TysOK Tryd.prog tys := tysOK_of_chk (by kernel_rfl)
theorem mixed : Tryd.prog.follows .mixedOrders = true := by kernel_rfl
end Go.Ev.D
/- Epochs and numbers in bytes, plainly. -/
set_option linter.unusedVariables false
namespace Go.Ev

end Go.Ev
/- The laws of epochs, plainly. -/
set_option linter.unusedVariables false
namespace Go.Ev

theorem geqB (x y : Bool) : geq .bool x y = (x == y) := rfl
end Go.Ev
/- Parcels, and by whom they go, plainly. -/
set_option linter.unusedVariables false
namespace Go.Ev

def rightF (n : Int) : Bool := bif decide (n ≥ 0) then decide (n < 16) else false
theorem rightF_iff {n : Int} : rightF n = true ↔ 0 ≤ n ∧ n < 16 := by
  unfold rightF
  cases h : decide (n ≥ 0) <;> simp at h ⊢ <;> omega
end Go.Ev
/- Nodes, costs and configurations, plainly. -/
set_option linter.unusedVariables false
namespace Go.Ev

abbrev gRules : GTy := .prod (.int .i64) (.prod (.int .i64) (.prod (.int .i64) (.int .i64)))
abbrev gCosts : GTy := .prod (.int .i64) (.arr 16 (.int .u32))
abbrev gConf : GTy := .prod (.int .i64) (.prod gRules gCosts)
abbrev DRules := Int × Int × Int × Int
abbrev DCosts := Int × List Int
abbrev DConf := Int × DRules × DCosts

/-- Bit n of a set. -/
def bitF (set n : Int) : Bool := bitsOp .and .i64 (Int.fdiv set (2 ^ min n.toNat 64)) 1 == 1
def hasF (set n : Int) : Bool := bif rightF n then bitF set n else false
def rcostF (n : Int) : Bool := bif decide (n ≥ 1) then decide (n ≤ 65536) else false
def withF (set n : Int) : Int := bif !rightF n then set else bitsOp .or .i64 set (IntKind.i64.wrap (1 * 2 ^ min n.toNat 64))
def csetF (c : DCosts) (n w : Int) : DCosts × Int := bif bif !rightF n then true else !rcostF w then (c, 1) else ((withF c.1 n, c.2.set n.toNat w), 0)
/-- The set's nodes among the last k. -/
def elemsF (set : Int) : Nat → List Int
  | 0 => []
  | k + 1 => (bif hasF set (16 - (k + 1 : Nat)) then [(16 : Int) - (k + 1 : Nat)] else []) ++ elemsF set k
theorem elems_len (set : Int) : ∀ k, (elemsF set k).length ≤ k
  | 0 => Nat.le_refl _
  | k + 1 => by
    have := elems_len set k
    unfold elemsF
    cases hasF set (16 - (k + 1 : Nat)) <;> simp <;> omega
theorem list_step {s i : Int} {out : List Int} (h : 0 ≤ i ∧ i ≤ 16 ∧ (out.length : Int) ≤ i) :
    ((decide (i < 16) = true → (hasF s i = true → (out.length + 1) * 8 ≤ 140737488355328) ∧ ∃ y : (Int × Int × Unit) × List Int × Unit, some ((s, IntKind.i64.wrap (i + 1), ()), bif hasF s i then out ++ [i] else out, ()) = some y ∧
        (0 ≤ y.1.2.1 ∧ y.1.2.1 ≤ 16 ∧ (y.2.1.length : Int) ≤ y.1.2.1) ∧ (16 - y.1.2.1).toNat < (16 - i).toNat ∧ (Ex.exit 0, ((y.1.1, (16 : Int), ()), y.2.1 ++ elemsF y.1.1 (16 - y.1.2.1).toNat, ())) = (Ex.exit 0, ((s, (16 : Int), ()), out ++ elemsF s (16 - i).toNat, ()))) ∧
      (decide (i < 16) = false → ∃ y : (Int × Int × Unit) × List Int × Unit, some ((s, i, ()), out, ()) = some y ∧ (Ex.exit 0, ((s, (16 : Int), ()), out ++ elemsF s (16 - i).toNat, ())) = (Ex.exit 0, y))) := by
  obtain ⟨h1, h2, h3⟩ := h
  refine ⟨fun h => ?_, fun h => ?_⟩
  · have h' : i < 16 := by simpa using h
    have e : IntKind.i64.wrap (i + 1) = i + 1 := i64_id (by omega) (by omega)
    rw [e]
    refine ⟨fun _ => by omega, _, rfl, ⟨by simp only []; omega, by simp only []; omega, ?_⟩, by simp only []; omega, ?_⟩
    · cases hasF s i <;> simp <;> omega
    · simp only []
      rw [show (16 - i).toNat = (16 - (i + 1)).toNat + 1 by omega, elemsF, show (16 : Int) - ((16 - (i + 1)).toNat + 1 : Nat) = i by omega]
      cases hasF s i <;> simp
  · have h' : i = 16 := by
      have : ¬ i < 16 := by simpa using h
      omega
    subst h'
    exact ⟨_, rfl, by simp [elemsF]⟩
end Go.Ev
/- Sets of nodes as texts, in plain Lean. -/
set_option linter.unusedVariables false
set_option linter.unusedSimpArgs false
namespace Go.Ev
def letF (n : Int) : UInt8 := UInt8.ofNat (97 + n).toNat
def textN (s : Int) : List UInt8 := bif bitsOp BinOp.and IntKind.i64 s (65535 : Int) == (0 : Int) then [46] else (elemsF s 16).map letF
theorem elem_in {s j : Int} : ∀ {k : Nat}, k ≤ 16 → j ∈ elemsF s k → 0 ≤ j ∧ j < 16 ∧ hasF s j = true
  | 0, _, h => by cases h
  | k + 1, hk, h => by
    simp only [elemsF, List.mem_append] at h
    rcases h with h | h
    · cases hb : hasF s (16 - (k + 1 : Nat)) with
      | false => rw [hb] at h; simp at h
      | true =>
        rw [hb] at h
        have : j = 16 - ((k + 1 : Nat) : Int) := by simpa using h
        rw [this]
        exact ⟨by omega, by omega, hb⟩
    · exact elem_in (by omega) h
theorem in_elem {s j : Int} (hj : j < 16) (hh : hasF s j = true) : ∀ {k : Nat}, 16 - (k : Int) ≤ j → j ∈ elemsF s k
  | 0, h => by omega
  | k + 1, h => by
    simp only [elemsF, List.mem_append]
    by_cases e : j = 16 - ((k + 1 : Nat) : Int)
    · left
      rw [← e, hh]
      simp
    · right
      exact in_elem hj hh (by omega)
theorem and_low {s : Int} (m : Nat) (hm : m < 63) : bitsOp BinOp.and IntKind.i64 s ((2 ^ m - 1 : Nat) : Int) = s % (2 ^ m : Nat) := by
  have hp : 2 ^ m ≤ 2 ^ 62 := Nat.pow_le_pow_right (by omega) (by omega)
  have hp0 : 0 < 2 ^ m := Nat.pow_pos (by omega)
  have h62 : (2 : Nat) ^ 62 = 4611686018427387904 := by decide
  show IntKind.i64.wrap ((BitVec.ofInt 64 s &&& BitVec.ofInt 64 ((2 ^ m - 1 : Nat) : Int)).toNat : Int) = _
  rw [BitVec.toNat_and, BitVec.toNat_ofInt, BitVec.toNat_ofInt]
  have e1 : (((2 ^ m - 1 : Nat) : Int) % ((2 ^ 64 : Nat) : Int)).toNat = 2 ^ m - 1 := by
    rw [Int.emod_eq_of_lt (by omega) (by omega)]
    omega
  rw [e1, Nat.and_two_pow_sub_one_eq_mod]
  have h2 : (s % ((2 ^ 64 : Nat) : Int)).toNat % 2 ^ m = (s % (2 ^ m : Nat)).toNat := by
    have hd : ((2 ^ m : Nat) : Int) ∣ ((2 ^ 64 : Nat) : Int) := Int.ofNat_dvd.2 (Nat.pow_dvd_pow 2 (by omega))
    have hnn : 0 ≤ s % ((2 ^ 64 : Nat) : Int) := Int.emod_nonneg _ (by decide)
    have := Int.emod_emod_of_dvd s hd
    have h3 : (((s % ((2 ^ 64 : Nat) : Int)).toNat % 2 ^ m : Nat) : Int) = s % (2 ^ m : Nat) := by
      rw [Int.natCast_emod, Int.toNat_of_nonneg hnn]
      exact this
    have h4 : 0 ≤ s % ((2 ^ m : Nat) : Int) := Int.emod_nonneg _ (by omega)
    omega
  rw [h2]
  have h4 : 0 ≤ s % ((2 ^ m : Nat) : Int) := Int.emod_nonneg _ (by omega)
  have h5 := Int.emod_lt_of_pos s (show (0 : Int) < ((2 ^ m : Nat) : Int) by omega)
  rw [i64_id (by omega) (by omega)]
  omega
theorem bit_at {s : Int} {n : Nat} (hn : n < 16) : bitF s n = ((s / (2 ^ n : Nat)) % 2 == 1) := by
  unfold bitF
  have e : min (n : Int).toNat 64 = n := by omega
  rw [e]
  have h := and_low (s := Int.fdiv s (2 ^ n)) 1 (by omega)
  have h' : bitsOp BinOp.and IntKind.i64 (Int.fdiv s (2 ^ n)) 1 = Int.fdiv s (2 ^ n) % 2 := h
  rw [h', Int.fdiv_eq_ediv_of_nonneg _ (Int.le_of_lt (Int.pow_pos (by omega)))]
  simp
theorem bits_dvd {s : Int} (h : ∀ n : Nat, n < 16 → (s / (2 ^ n : Nat)) % 2 = 0) : ∀ n : Nat, n ≤ 16 → ((2 ^ n : Nat) : Int) ∣ s
  | 0, _ => by simp
  | n + 1, hn => by
    obtain ⟨q, hq⟩ := bits_dvd h n (by omega)
    have h1 := h n (by omega)
    have hp : ((2 ^ n : Nat) : Int) ≠ 0 := by
      have : 0 < 2 ^ n := Nat.pow_pos (by omega)
      omega
    rw [hq, Int.mul_ediv_cancel_left q hp] at h1
    obtain ⟨r, hr⟩ := Int.dvd_of_emod_eq_zero h1
    refine ⟨r, ?_⟩
    rw [hq, hr, Nat.pow_succ, Int.natCast_mul, Int.mul_assoc]
    rfl
theorem no_bits {s : Int} (h : ∀ n : Nat, n < 16 → (s / (2 ^ n : Nat)) % 2 = 0) : s % 65536 = 0 := Int.emod_eq_zero_of_dvd (bits_dvd h 16 (by omega))
theorem right_nat {n : Nat} (hn : n < 16) : rightF (n : Int) = true := rightF_iff.2 ⟨by omega, by omega⟩
theorem mask_empty (s : Int) : (bitsOp BinOp.and IntKind.i64 s (65535 : Int) == (0 : Int)) = (elemsF s 16).isEmpty := by
  have hm : bitsOp BinOp.and IntKind.i64 s (65535 : Int) = s % 65536 := and_low (s := s) 16 (by omega)
  rw [hm, Bool.eq_iff_iff]
  simp only [beq_iff_eq, List.isEmpty_iff]
  constructor
  · intro h
    cases he : elemsF s 16 with
    | nil => rfl
    | cons j l =>
      exfalso
      obtain ⟨h1, h2, h3⟩ := elem_in (Nat.le_refl 16) (show j ∈ elemsF s 16 by rw [he]; simp)
      obtain ⟨n, rfl⟩ := Int.eq_ofNat_of_zero_le h1
      have hn : n < 16 := by omega
      unfold hasF at h3
      rw [right_nat hn] at h3
      simp only [cond_true] at h3
      rw [bit_at hn] at h3
      simp only [beq_iff_eq] at h3
      have hk : n = 0 ∨ n = 1 ∨ n = 2 ∨ n = 3 ∨ n = 4 ∨ n = 5 ∨ n = 6 ∨ n = 7 ∨ n = 8 ∨ n = 9 ∨ n = 10 ∨ n = 11 ∨ n = 12 ∨ n = 13 ∨ n = 14 ∨ n = 15 := by omega
      rcases hk with rfl | rfl | rfl | rfl | rfl | rfl | rfl | rfl | rfl | rfl | rfl | rfl | rfl | rfl | rfl | rfl <;> (simp at h3; omega)
  · intro h
    refine no_bits fun n hn => ?_
    cases hb : hasF s n with
    | true =>
      have := in_elem (k := 16) (by omega) hb (by omega)
      rw [h] at this
      cases this
    | false =>
      unfold hasF at hb
      rw [right_nat hn] at hb
      simp only [cond_true] at hb
      rw [bit_at hn] at hb
      have : ¬ s / (2 ^ n : Nat) % 2 = 1 := by simpa using hb
      have h2 := Int.emod_nonneg (s / (2 ^ n : Nat)) (show (2 : Int) ≠ 0 by decide)
      have h3 := Int.emod_lt_of_pos (s / (2 ^ n : Nat)) (show (0 : Int) < 2 by decide)
      omega
theorem textN_len (s : Int) : (textN s).length ≤ 16 := by
  unfold textN
  have := elems_len s 16
  cases bitsOp BinOp.and IntKind.i64 s (65535 : Int) == (0 : Int) <;> simp <;> omega
theorem let_byte {n : Int} (h0 : 0 ≤ n) (h1 : n < 16) : bytesToStr [IntKind.wrap IntKind.u8 (IntKind.wrap IntKind.i64 ((97 : Int) + n))] = [letF n] := by
  rw [show IntKind.wrap IntKind.i64 ((97 : Int) + n) = 97 + n from i64_id (by omega) (by omega), show IntKind.wrap IntKind.u8 ((97 : Int) + n) = 97 + n from u8_id (by omega) (by omega)]
  rfl
theorem drop_int {l : List Int} {i : Int} (h0 : 0 ≤ i) (h1 : i < l.length) : l.drop i.toNat = l.getD i.toNat 0 :: l.drop (i + 1).toNat := by
  have hlt : i.toNat < l.length := by omega
  rw [List.drop_eq_getElem_cons hlt, show (i + 1).toNat = i.toNat + 1 by omega]
  simp [List.getD, hlt]
theorem getD_mem {l : List Int} {i : Int} (h0 : 0 ≤ i) (h1 : i < l.length) : l.getD i.toNat 0 ∈ l := by
  have hlt : i.toNat < l.length := by omega
  simp [List.getD, hlt]
end Go.Ev
/- Sets of nodes, as texts. -/
set_option linter.unusedVariables false
set_option linter.unusedSimpArgs false
namespace Go.Ev.D
open Go.Proofs
def rightC : Ctr := { args := [.int .i64], res := [.bool], pre := none, fn := fun (x : Int) => rightF x }
def rightG : List (Nat × Ctr) := []
theorem right_tree : (fun x : Int => evFn (mkC tys rightG []) (fnOf Tryd.prog 72) (resL rightC.args x) rightC.res) =
  (fun x => Tree.leaf (bif decide (x ≥ (0 : Int)) then decide (x < (16 : Int)) else false)) := by kernel_rfl
theorem right_ok : CtrOK Tryd.prog 72 rightC :=
  fun_ok (G := rightG) (Λ := []) tysOK ctrs_nil mixed (by kernel_rfl) (by kernel_rfl) (by kernel_rfl) (by kernel_rfl) lp_nil fun (x : Int) hw _ => by
    rw [congrFun right_tree x]
    exact holds_val (d := rightC.fn x) (by kernel_rfl) (by simp [Tree.safe])
def hasC : Ctr := { args := [.int .i64, .int .i64], res := [.bool], pre := none, fn := fun (x : Int × Int) => hasF x.1 x.2 }
def hasG : List (Nat × Ctr) := [(72, rightC)]
theorem has_tree : (fun x : Int × Int => evFn (mkC tys hasG []) (fnOf Tryd.prog 41) (resL hasC.args x) hasC.res) =
  (fun x =>
    Tree.need ((rightF x.2 == true && true) = true → (0 : Int) ≤ x.2)
      (Tree.leaf (bif rightF x.2 then bitsOp BinOp.and IntKind.i64 (Int.fdiv x.1 ((2 : Int) ^ min (Int.toNat x.2) (64 : Nat))) (1 : Int) == (1 : Int) else false))) := by kernel_rfl
theorem has_ok : CtrOK Tryd.prog 41 hasC :=
  fun_ok (G := hasG) (Λ := []) tysOK (ctrs_cons right_ok ctrs_nil) mixed (by kernel_rfl) (by kernel_rfl) (by kernel_rfl) (by kernel_rfl) lp_nil fun (x : Int × Int) hw _ => by
    rw [congrFun has_tree x]
    exact holds_val (d := hasC.fn x) (by kernel_rfl) (by simp [Tree.safe]; intro h; exact (rightF_iff.1 h).1)
def withC : Ctr := { args := [.int .i64, .int .i64], res := [.int .i64], pre := none, fn := fun (x : Int × Int) => withF x.1 x.2 }
def withG : List (Nat × Ctr) := [(72, rightC)]
theorem with_tree : (fun x : Int × Int => evFn (mkC tys withG []) (fnOf Tryd.prog 100) (resL withC.args x) withC.res) =
  (fun x =>
    Tree.br (!rightF x.2) (Tree.leaf x.1) (Tree.need ((0 : Int) ≤ x.2) (Tree.leaf (bitsOp BinOp.or IntKind.i64 x.1 (IntKind.wrap IntKind.i64 ((1 : Int) * (2 : Int) ^ min (Int.toNat x.2) (64 : Nat))))))) := by kernel_rfl
theorem with_ok : CtrOK Tryd.prog 100 withC :=
  fun_ok (G := withG) (Λ := []) tysOK (ctrs_cons right_ok ctrs_nil) mixed (by kernel_rfl) (by kernel_rfl) (by kernel_rfl) (by kernel_rfl) lp_nil fun (x : Int × Int) hw _ => by
    rw [congrFun with_tree x]
    exact holds_val (d := withC.fn x) (by kernel_rfl) (by simp [Tree.safe]; intro h; exact (rightF_iff.1 h).1)
def rrightC : Ctr := { args := [.int .i64], res := [.bool], pre := none, fn := fun (x : Int) => rightF x }
def rrightG : List (Nat × Ctr) := []
theorem rright_tree : (fun x : Int => evFn (mkC tys rrightG []) (fnOf Tryd.prog 99) (resL rrightC.args x) rrightC.res) =
  (fun x => Tree.leaf (bif decide (x ≥ (0 : Int)) then decide (x < (16 : Int)) else false)) := by kernel_rfl
theorem rright_ok : CtrOK Tryd.prog 99 rrightC :=
  fun_ok (G := rrightG) (Λ := []) tysOK ctrs_nil mixed (by kernel_rfl) (by kernel_rfl) (by kernel_rfl) (by kernel_rfl) lp_nil fun (x : Int) hw _ => by
    rw [congrFun rright_tree x]
    exact holds_val (d := rrightC.fn x) (by kernel_rfl) (by simp [Tree.safe])
def rhasC : Ctr := { args := [.int .i64, .int .i64], res := [.bool], pre := none, fn := fun (x : Int × Int) => hasF x.1 x.2 }
theorem rhas_tree : (fun x : Int × Int => evFn (mkC tys [(99, rrightC)] []) (fnOf Tryd.prog 111) (resL rhasC.args x) rhasC.res) =
  (fun x =>
    Tree.need ((rightF x.2 == true && true) = true → (0 : Int) ≤ IntKind.wrap IntKind.u64 x.2)
      (Tree.leaf (bif rightF x.2 then bitsOp BinOp.and IntKind.i64 (Int.fdiv x.1 ((2 : Int) ^ min (Int.toNat (IntKind.wrap IntKind.u64 x.2)) (64 : Nat))) (1 : Int) == (1 : Int) else false))) := by kernel_rfl
theorem rhas_ok : CtrOK Tryd.prog 111 rhasC :=
  fun_ok (G := [(99, rrightC)]) (Λ := []) tysOK (ctrs_cons rright_ok ctrs_nil) mixed (by kernel_rfl) (by kernel_rfl) (by kernel_rfl) (by kernel_rfl) lp_nil fun (x : Int × Int) hw _ => by
    rw [congrFun rhas_tree x]
    cases h : rightF x.2 with
    | false => simp [Tree.holds, rhasC, hasF, h]
    | true =>
      have h2 := rightF_iff.1 h
      have e : IntKind.u64.wrap x.2 = x.2 := u64_id h2.1 (by omega)
      simp only [Tree.holds, rhasC, hasF, h, e, bitF]
      exact ⟨fun _ => h2.1, trivial⟩
def listD : LoopD where
  prom := [(3, 1003, 3, .int .i64)]
  ts := [(0, .val (.int .i64)), (3, .tip 1003), (5, .val (.int .i64))]
  bs := [(1003, .row 3 (.int .i64) false)]
  pre := fun (x : (Int × Int × Unit) × List Int × Unit) => 0 ≤ x.1.2.1 ∧ x.1.2.1 ≤ 16 ∧ (x.2.1.length : Int) ≤ x.1.2.1
  out := fun (x : (Int × Int × Unit) × List Int × Unit) => .leaf (.exit 0, ((x.1.1, 16, ()), x.2.1 ++ elemsF x.1.1 (16 - x.1.2.1).toNat, ()))
def listG : List (Nat × Ctr) := [(41, hasC)]
theorem listG_ok : CtrsOK Tryd.prog (fun f => lk f listG) := (ctrs_cons has_ok ctrs_nil)
def listC : Ctr := { args := [.int .i64], res := [.sl (.int .i64)], pre := none, fn := fun (x : Int) => elemsF x 16 }
theorem list_round : (fun x : (Int × Int × Unit) × List Int × Unit => roundOf (mkC tys listG [(0, listD.spec)]) listD (loopB 0 (bodyOf (fnOf Tryd.prog 102))) x) =
  (fun x =>
    Tree.br (decide (x.1.2.1 < (16 : Int)))
      (Tree.need (hasF x.1.1 x.1.2.1 = true → (List.length x.2.1 + (1 : Nat)) * (8 : Nat) ≤ (140737488355328 : Nat))
        (Tree.leaf (Ex.normal, some ((x.1.1, IntKind.wrap IntKind.i64 (x.1.2.1 + (1 : Int)), ()), bif hasF x.1.1 x.1.2.1 then x.2.1 ++ [x.1.2.1] else x.2.1, ()))))
      (Tree.leaf (Ex.exit (0 : Nat), some ((x.1.1, x.1.2.1, ()), x.2.1, ())))) := by kernel_rfl
theorem list_loop : LoopOK (mkC tys listG [(0, listD.spec)]) listD.spec (loopB 0 (bodyOf (fnOf Tryd.prog 102))) :=
  loopD_ok1 (fun _ => rfl) (fun x => congrFun list_round x) (fun (x : (Int × Int × Unit) × List Int × Unit) => (16 - x.1.2.1).toNat) fun (x : (Int × Int × Unit) × List Int × Unit) hp => by
    obtain ⟨⟨s, i, ⟨⟩⟩, out, ⟨⟩⟩ := x
    exact list_step hp
theorem list_tree : (fun x : Int => evFn (mkC tys listG [(0, listD.spec)]) (fnOf Tryd.prog 102) (resL listC.args x) listC.res) =
  (fun x => Tree.need ((0 : Int) ≤ (0 : Int) ∧ (0 : Int) ≤ (16 : Int) ∧ (↑(0 : Nat) : Int) ≤ (0 : Int)) (Tree.leaf ([] ++ elemsF x (Int.toNat ((16 : Int) - (0 : Int)))))) := by kernel_rfl
theorem list_ok : CtrOK Tryd.prog 102 listC :=
  fun_ok (G := listG) (Λ := [(0, listD.spec)]) tysOK listG_ok mixed (by kernel_rfl) (by kernel_rfl) (by kernel_rfl) (by kernel_rfl) (lp_cons list_loop lp_nil) fun (x : Int) hw _ => by
    rw [congrFun list_tree x]
    exact ⟨⟨by omega, by omega, by omega⟩, rfl⟩
def rlistG : List (Nat × Ctr) := [(111, rhasC)]
theorem rlistG_ok : CtrsOK Tryd.prog (fun f => lk f rlistG) := (ctrs_cons rhas_ok ctrs_nil)
def rlistC : Ctr := { args := [.int .i64], res := [.sl (.int .i64)], pre := none, fn := fun (x : Int) => elemsF x 16 }
theorem rlist_round : (fun x : (Int × Int × Unit) × List Int × Unit => roundOf (mkC tys rlistG [(0, listD.spec)]) listD (loopB 0 (bodyOf (fnOf Tryd.prog 105))) x) =
  (fun x =>
    Tree.br (decide (x.1.2.1 < (16 : Int)))
      (Tree.need (hasF x.1.1 x.1.2.1 = true → (List.length x.2.1 + (1 : Nat)) * (8 : Nat) ≤ (140737488355328 : Nat))
        (Tree.leaf (Ex.normal, some ((x.1.1, IntKind.wrap IntKind.i64 (x.1.2.1 + (1 : Int)), ()), bif hasF x.1.1 x.1.2.1 then x.2.1 ++ [x.1.2.1] else x.2.1, ()))))
      (Tree.leaf (Ex.exit (0 : Nat), some ((x.1.1, x.1.2.1, ()), x.2.1, ())))) := by kernel_rfl
theorem rlist_loop : LoopOK (mkC tys rlistG [(0, listD.spec)]) listD.spec (loopB 0 (bodyOf (fnOf Tryd.prog 105))) :=
  loopD_ok1 (fun _ => rfl) (fun x => congrFun rlist_round x) (fun (x : (Int × Int × Unit) × List Int × Unit) => (16 - x.1.2.1).toNat) fun (x : (Int × Int × Unit) × List Int × Unit) hp => by
    obtain ⟨⟨s, i, ⟨⟩⟩, out, ⟨⟩⟩ := x
    exact list_step hp
theorem rlist_tree : (fun x : Int => evFn (mkC tys rlistG [(0, listD.spec)]) (fnOf Tryd.prog 105) (resL rlistC.args x) rlistC.res) =
  (fun x => Tree.need ((0 : Int) ≤ (0 : Int) ∧ (0 : Int) ≤ (16 : Int) ∧ (↑(0 : Nat) : Int) ≤ (0 : Int)) (Tree.leaf ([] ++ elemsF x (Int.toNat ((16 : Int) - (0 : Int)))))) := by kernel_rfl
theorem rlist_ok : CtrOK Tryd.prog 105 rlistC :=
  fun_ok (G := rlistG) (Λ := [(0, listD.spec)]) tysOK rlistG_ok mixed (by kernel_rfl) (by kernel_rfl) (by kernel_rfl) (by kernel_rfl) (lp_cons rlist_loop lp_nil) fun (x : Int) hw _ => by
    rw [congrFun rlist_tree x]
    exact ⟨⟨by omega, by omega, by omega⟩, rfl⟩
def ntextG : List (Nat × Ctr) := [(102, listC)]
theorem ntextG_ok : CtrsOK Tryd.prog (fun f => lk f ntextG) := (ctrs_cons list_ok ctrs_nil)
def ntextD : LoopD where
  prom := []
  ts := [(3, .tip 9), (11, .val (.sl (.int .i64))), (12, .val (.int .i64)), (13, .val (.int .i64))]
  bs := [(9, .row 5 (.int .u8) false)]
  pre := fun (x : (List Int × Int × Int × Unit) × (List Int × Unit)) => 0 ≤ x.1.2.2.1 ∧ x.1.2.2.1 ≤ x.1.2.1 ∧ x.1.2.1 = x.1.1.length ∧ x.1.2.1 ≤ 16 ∧ (x.2.1.length : Int) = x.1.2.2.1 ∧ ∀ j ∈ x.1.1, 0 ≤ j ∧ j < 16
  out := fun (x : (List Int × Int × Int × Unit) × (List Int × Unit)) => .leaf (.exit 0, ((x.1.1, x.1.2.1, x.1.2.1, ()), (x.2.1 ++ (x.1.1.drop x.1.2.2.1.toNat).map fun n => 97 + n, ())))
theorem ntext_round : (fun x : (List Int × Int × Int × Unit) × (List Int × Unit) => roundOf (mkC tys ntextG [(0, ntextD.spec)]) ntextD (loopB 0 (bodyOf (fnOf Tryd.prog 104))) x) =
  (fun x =>
    Tree.br (decide (x.1.2.2.1 < x.1.2.1))
      (Tree.need ((0 : Int) ≤ x.1.2.2.1 ∧ x.1.2.2.1 < (↑(List.length x.1.1) : Int))
        (Tree.need ((List.length x.2.1 + (1 : Nat)) * (1 : Nat) ≤ (140737488355328 : Nat))
          (Tree.leaf
            (Ex.normal,
              some
                ((x.1.1, x.1.2.1, IntKind.wrap IntKind.i64 (x.1.2.2.1 + (1 : Int)), ()),
                  x.2.1 ++ [IntKind.wrap IntKind.u8 (IntKind.wrap IntKind.i64 ((97 : Int) + List.getD x.1.1 (Int.toNat x.1.2.2.1) (0 : Int)))], ())))))
      (Tree.leaf (Ex.exit (0 : Nat), some ((x.1.1, x.1.2.1, x.1.2.2.1, ()), x.2.1, ())))) := by kernel_rfl
theorem ntext_loop : LoopOK (mkC tys ntextG [(0, ntextD.spec)]) ntextD.spec (loopB 0 (bodyOf (fnOf Tryd.prog 104))) :=
  loopD_ok1 (fun _ => rfl) (fun x => congrFun ntext_round x) (fun (x : (List Int × Int × Int × Unit) × (List Int × Unit)) => (x.1.2.1 - x.1.2.2.1).toNat) fun (x : (List Int × Int × Int × Unit) × (List Int × Unit)) hp => by
    obtain ⟨⟨l, n, i, ⟨⟩⟩, o, ⟨⟩⟩ := x
    obtain ⟨h1, h2, h3, h4, h5, h6⟩ := hp
    simp only at h1 h2 h3 h4 h5 h6
    simp only [Tree.holds]
    refine ⟨fun h => ?_, fun h => ?_⟩
    · have h' : i < n := by simpa using h
      have e : IntKind.i64.wrap (i + 1) = i + 1 := i64_id (by omega) (by omega)
      have hm := h6 _ (getD_mem (l := l) h1 (by omega))
      have hd := drop_int (l := l) h1 (by omega)
      generalize l.getD i.toNat 0 = v at hm hd ⊢
      have e2 : IntKind.wrap IntKind.u8 (IntKind.wrap IntKind.i64 ((97 : Int) + v)) = 97 + v := by
        rw [show IntKind.wrap IntKind.i64 ((97 : Int) + v) = 97 + v from i64_id (by omega) (by omega)]
        exact u8_id (by omega) (by omega)
      rw [e2]
      refine ⟨⟨h1, by omega⟩, by omega, _, rfl, ⟨?_, ?_, h3, h4, ?_, h6⟩, ?_, ?_⟩
      · show 0 ≤ IntKind.i64.wrap (i + 1); omega
      · show IntKind.i64.wrap (i + 1) ≤ n; omega
      · show (((o ++ [97 + v]).length : Nat) : Int) = IntKind.i64.wrap (i + 1)
        rw [List.length_append]; simp; omega
      · show (n - IntKind.i64.wrap (i + 1)).toNat < (n - i).toNat; omega
      · show (Ex.exit 0, ((l, n, n, ()), ((o ++ [97 + v]) ++ (l.drop (IntKind.i64.wrap (i + 1)).toNat).map (fun n => 97 + n), ()))) = (Ex.exit 0, ((l, n, n, ()), (o ++ (l.drop i.toNat).map (fun n => 97 + n), ())))
        rw [e, hd, List.append_assoc]
        rfl
    · have h' : ¬ i < n := by simpa using h
      have hi : i = n := by omega
      subst hi
      refine ⟨_, rfl, ?_⟩
      show (Ex.exit 0, ((l, i, i, ()), (o ++ (l.drop i.toNat).map (fun n => 97 + n), ()))) = _
      rw [List.drop_eq_nil_of_le (by omega), List.map_nil, List.append_nil]
      rfl
def ntextC : Ctr := { args := [.int .i64], res := [.str], pre := none, fn := fun (x : Int) => textN x }
theorem ntext_tree : (fun x : Int => evFn (mkC tys ntextG [(0, ntextD.spec)]) (fnOf Tryd.prog 104) (resL ntextC.args x) ntextC.res) =
  (fun x =>
    Tree.br (bitsOp BinOp.and IntKind.i64 x (65535 : Int) == (0 : Int)) (Tree.leaf [(46 : UInt8)])
      (Tree.need ((0 : Int) ≤ (0 : Int) ∧ (0 : Int) ≤ (16 : Int) ∧ (16 : Int) ≤ (140737488355328 : Int))
        (Tree.need
          ((0 : Int) ≤ (0 : Int) ∧
            (0 : Int) ≤ (↑(List.length (elemsF x (16 : Nat))) : Int) ∧
              (↑(List.length (elemsF x (16 : Nat))) : Int) = (↑(List.length (elemsF x (16 : Nat))) : Int) ∧
                (↑(List.length (elemsF x (16 : Nat))) : Int) ≤ (16 : Int) ∧ (↑(0 : Nat) : Int) = (0 : Int) ∧ ∀ (j : Int), j ∈ elemsF x (16 : Nat) → (0 : Int) ≤ j ∧ j < (16 : Int))
          (Tree.leaf (bytesToStr (List.replicate (0 : Nat) (0 : Int) ++ List.map (fun n => (97 : Int) + n) (List.drop (Int.toNat (0 : Int)) (elemsF x (16 : Nat))))))))) := by kernel_rfl
theorem ntext_ok : CtrOK Tryd.prog 104 ntextC :=
  fun_ok (G := ntextG) (Λ := [(0, ntextD.spec)]) tysOK ntextG_ok mixed (by kernel_rfl) (by kernel_rfl) (by kernel_rfl) (by kernel_rfl) (lp_cons ntext_loop lp_nil) fun (x : Int) hw _ => by
    rw [congrFun ntext_tree x]
    have e : ntextC.fn x = textN x := rfl
    have hl := elems_len x 16
    rw [e]
    simp only [Tree.holds, textN]
    refine ⟨fun h => by rw [h]; rfl, fun h => ⟨⟨by omega, by omega, by omega⟩, ⟨by omega, by omega, trivial, by omega, by omega, fun j hj => ⟨(elem_in (Nat.le_refl 16) hj).1, (elem_in (Nat.le_refl 16) hj).2.1⟩⟩, ?_⟩⟩
    rw [h]
    show bytesToStr ((elemsF x 16).map fun n => 97 + n) = (elemsF x 16).map letF
    unfold bytesToStr
    rw [List.map_map]
    rfl
def letterC : Ctr := { args := [.int .i64], res := [.str], pre := some (fun (x : Int) => 0 ≤ x ∧ x < 16), fn := fun (x : Int) => [letF x] }
theorem letter_tree : (fun x : Int => evFn (mkC tys [] []) (fnOf Tryd.prog 141) (resL letterC.args x) letterC.res) =
  (fun x => Tree.leaf (bytesToStr [IntKind.wrap IntKind.u8 (IntKind.wrap IntKind.i64 ((97 : Int) + x))])) := by kernel_rfl
theorem letter_ok : CtrOK Tryd.prog 141 letterC :=
  fun_ok (G := []) (Λ := []) tysOK ctrs_nil mixed (by kernel_rfl) (by kernel_rfl) (by kernel_rfl) (by kernel_rfl) lp_nil fun (x : Int) hw hp => by
    have hp' : 0 ≤ (x : Int) ∧ (x : Int) < 16 := hp (fun (x : Int) => 0 ≤ x ∧ x < 16) rfl
    have h0 := hp'.1
    have h1 := hp'.2
    rw [congrFun letter_tree x]
    simp only [Tree.holds]
    rw [let_byte h0 h1]
    rfl
def rwithC : Ctr := { args := [.int .i64, .int .i64], res := [.int .i64], pre := none, fn := fun (x : Int × Int) => withF x.1 x.2 }
def rwithG : List (Nat × Ctr) := [(99, rrightC)]
theorem rwith_tree : (fun x : Int × Int => evFn (mkC tys rwithG []) (fnOf Tryd.prog 101) (resL rwithC.args x) rwithC.res) =
  (fun x =>
    Tree.br (rightF x.2)
      (Tree.need ((0 : Int) ≤ IntKind.wrap IntKind.u64 x.2)
        (Tree.leaf (bitsOp BinOp.or IntKind.i64 x.1 (IntKind.wrap IntKind.i64 ((1 : Int) * (2 : Int) ^ min (Int.toNat (IntKind.wrap IntKind.u64 x.2)) (64 : Nat))))))
      (Tree.leaf x.1)) := by kernel_rfl
theorem rwith_ok : CtrOK Tryd.prog 101 rwithC :=
  fun_ok (G := rwithG) (Λ := []) tysOK (ctrs_cons rright_ok ctrs_nil) mixed (by kernel_rfl) (by kernel_rfl) (by kernel_rfl) (by kernel_rfl) lp_nil fun (x : Int × Int) hw _ => by
    rw [congrFun rwith_tree x]
    have e : rwithC.fn x = withF x.1 x.2 := rfl
    rw [e]
    simp only [Tree.holds, withF]
    refine ⟨fun h => ?_, fun h => by rw [h]; rfl⟩
    have h2 := rightF_iff.1 h
    have e : IntKind.u64.wrap x.2 = x.2 := u64_id h2.1 (by omega)
    rw [e, h]
    exact ⟨h2.1, rfl⟩
def rtextG : List (Nat × Ctr) := [(105, rlistC), (141, letterC)]
theorem rtextG_ok : CtrsOK Tryd.prog (fun f => lk f rtextG) := (ctrs_cons rlist_ok (ctrs_cons letter_ok ctrs_nil))
def rtextD : LoopD where
  prom := []
  ts := [(3, .val .str), (7, .val (.sl (.int .i64))), (8, .val (.int .i64)), (9, .val (.int .i64))]
  bs := []
  pre := fun (x : (List UInt8 × List Int × Int × Int × Unit) × Unit) => 0 ≤ x.1.2.2.2.1 ∧ x.1.2.2.2.1 ≤ x.1.2.2.1 ∧ x.1.2.2.1 = x.1.2.1.length ∧ x.1.2.2.1 ≤ 16 ∧ (x.1.1.length : Int) = x.1.2.2.2.1 ∧ ∀ j ∈ x.1.2.1, 0 ≤ j ∧ j < 16
  out := fun (x : (List UInt8 × List Int × Int × Int × Unit) × Unit) => .leaf (.exit 0, ((x.1.1 ++ (x.1.2.1.drop x.1.2.2.2.1.toNat).map letF, x.1.2.1, x.1.2.2.1, x.1.2.2.1, ()), ()))
theorem rtext_round : (fun x : (List UInt8 × List Int × Int × Int × Unit) × Unit => roundOf (mkC tys rtextG [(0, rtextD.spec)]) rtextD (loopB 0 (bodyOf (fnOf Tryd.prog 106))) x) =
  (fun x =>
    Tree.br (decide (x.1.2.2.2.1 < x.1.2.2.1))
      (Tree.need ((0 : Int) ≤ x.1.2.2.2.1 ∧ x.1.2.2.2.1 < (↑(List.length x.1.2.1) : Int))
        (Tree.need ((0 : Int) ≤ List.getD x.1.2.1 (Int.toNat x.1.2.2.2.1) (0 : Int) ∧ List.getD x.1.2.1 (Int.toNat x.1.2.2.2.1) (0 : Int) < (16 : Int))
          (Tree.need (List.length x.1.1 + (1 : Nat) ≤ (4611686018427387904 : Nat))
            (Tree.leaf (Ex.normal, some ((x.1.1 ++ [letF (List.getD x.1.2.1 (Int.toNat x.1.2.2.2.1) (0 : Int))], x.1.2.1, x.1.2.2.1, IntKind.wrap IntKind.i64 (x.1.2.2.2.1 + (1 : Int)), ()), ()))))))
      (Tree.leaf (Ex.exit (0 : Nat), some ((x.1.1, x.1.2.1, x.1.2.2.1, x.1.2.2.2.1, ()), ())))) := by kernel_rfl
theorem rtext_loop : LoopOK (mkC tys rtextG [(0, rtextD.spec)]) rtextD.spec (loopB 0 (bodyOf (fnOf Tryd.prog 106))) :=
  loopD_ok1 (fun _ => rfl) (fun x => congrFun rtext_round x) (fun (x : (List UInt8 × List Int × Int × Int × Unit) × Unit) => (x.1.2.2.1 - x.1.2.2.2.1).toNat) fun (x : (List UInt8 × List Int × Int × Int × Unit) × Unit) hp => by
    obtain ⟨⟨o, l, n, i, ⟨⟩⟩, ⟨⟩⟩ := x
    obtain ⟨h1, h2, h3, h4, h5, h6⟩ := hp
    simp only at h1 h2 h3 h4 h5 h6
    simp only [Tree.holds]
    refine ⟨fun h => ?_, fun h => ?_⟩
    · have h' : i < n := by simpa using h
      have e : IntKind.i64.wrap (i + 1) = i + 1 := i64_id (by omega) (by omega)
      have hm := h6 _ (getD_mem (l := l) h1 (by omega))
      have hd := drop_int (l := l) h1 (by omega)
      generalize l.getD i.toNat 0 = v at hm hd ⊢
      refine ⟨⟨h1, by omega⟩, hm, by omega, _, rfl, ⟨?_, ?_, h3, h4, ?_, h6⟩, ?_, ?_⟩
      · show 0 ≤ IntKind.i64.wrap (i + 1); omega
      · show IntKind.i64.wrap (i + 1) ≤ n; omega
      · show (((o ++ [letF v]).length : Nat) : Int) = IntKind.i64.wrap (i + 1)
        rw [List.length_append]; simp; omega
      · show (n - IntKind.i64.wrap (i + 1)).toNat < (n - i).toNat; omega
      · show (Ex.exit 0, (((o ++ [letF v]) ++ (l.drop (IntKind.i64.wrap (i + 1)).toNat).map letF, l, n, n, ()), ())) = (Ex.exit 0, ((o ++ (l.drop i.toNat).map letF, l, n, n, ()), ()))
        rw [e, hd, List.append_assoc]
        rfl
    · have h' : ¬ i < n := by simpa using h
      have hi : i = n := by omega
      subst hi
      refine ⟨_, rfl, ?_⟩
      show (Ex.exit 0, ((o ++ (l.drop i.toNat).map letF, l, i, i, ()), ())) = _
      rw [List.drop_eq_nil_of_le (by omega), List.map_nil, List.append_nil]
      rfl
def rtextC : Ctr := { args := [.int .i64], res := [.str], pre := none, fn := fun (x : Int) => textN x }
theorem rtext_tree : (fun x : Int => evFn (mkC tys rtextG [(0, rtextD.spec)]) (fnOf Tryd.prog 106) (resL rtextC.args x) rtextC.res) =
  (fun x =>
    Tree.need
      ((0 : Int) ≤ (0 : Int) ∧
        (0 : Int) ≤ (↑(List.length (elemsF x (16 : Nat))) : Int) ∧
          (↑(List.length (elemsF x (16 : Nat))) : Int) = (↑(List.length (elemsF x (16 : Nat))) : Int) ∧
            (↑(List.length (elemsF x (16 : Nat))) : Int) ≤ (16 : Int) ∧ (↑(0 : Nat) : Int) = (0 : Int) ∧ ∀ (j : Int), j ∈ elemsF x (16 : Nat) → (0 : Int) ≤ j ∧ j < (16 : Int))
      (Tree.br ([] ++ List.map letF (List.drop (Int.toNat (0 : Int)) (elemsF x (16 : Nat))) == []) (Tree.leaf [(46 : UInt8)])
        (Tree.leaf ([] ++ List.map letF (List.drop (Int.toNat (0 : Int)) (elemsF x (16 : Nat))))))) := by kernel_rfl
theorem rtext_ok : CtrOK Tryd.prog 106 rtextC :=
  fun_ok (G := rtextG) (Λ := [(0, rtextD.spec)]) tysOK rtextG_ok mixed (by kernel_rfl) (by kernel_rfl) (by kernel_rfl) (by kernel_rfl) (lp_cons rtext_loop lp_nil) fun (x : Int) hw _ => by
    rw [congrFun rtext_tree x]
    have e : rtextC.fn x = textN x := rfl
    have hl := elems_len x 16
    have hm := mask_empty x
    rw [e]
    simp only [Tree.holds, textN]
    rw [hm]
    refine ⟨⟨by omega, by omega, trivial, by omega, by omega, fun j hj => ⟨(elem_in (Nat.le_refl 16) hj).1, (elem_in (Nat.le_refl 16) hj).2.1⟩⟩, ?_⟩
    cases elemsF x 16 with
    | nil => exact ⟨fun _ => rfl, fun h => by cases h⟩
    | cons j l => exact ⟨fun h => by simp at h, fun _ => rfl⟩
end Go.Ev.D
/- Decimal numerals, in plain Lean. -/
set_option linter.unusedVariables false
set_option linter.unusedSimpArgs false
namespace Go.Ev
/-- A number's digits, at most so many. -/
def digN : Nat → Nat → List UInt8
  | 0, _ => []
  | f + 1, n => bif Nat.blt n 10 then [UInt8.ofNat (48 + n)] else digN f (n / 10) ++ [UInt8.ofNat (48 + n % 10)]
def natT (n : Nat) : List UInt8 := digN 20 n
def itoaF (n : Int) : List UInt8 := bif decide (n < 0) then 45 :: natT n.natAbs else natT n.toNat
theorem digN_len : ∀ f n, (digN f n).length ≤ f
  | 0, _ => Nat.le_refl _
  | f + 1, n => by
    unfold digN
    cases Nat.blt n 10 with
    | true => simp
    | false => simp only [cond_false, List.length_append, List.length_cons, List.length_nil]; have := digN_len f (n / 10); omega
theorem itoaF_len (n : Int) : (itoaF n).length ≤ 21 := by
  unfold itoaF natT
  have h1 := digN_len 20 n.natAbs
  have h2 := digN_len 20 n.toNat
  cases decide (n < 0) <;> simp <;> omega
/-- More room turns nothing. -/
theorem digN_more : ∀ f n, n < 10 ^ f → 0 < f → digN (f + 1) n = digN f n
  | 0, _, _, h => absurd h (by omega)
  | f + 1, n, h, _ => by
    show (bif Nat.blt n 10 then _ else digN (f + 1) (n / 10) ++ _) = (bif Nat.blt n 10 then _ else digN f (n / 10) ++ _)
    cases hb : Nat.blt n 10 with
    | true => rfl
    | false =>
      have h10 : ¬ n < 10 := by rw [← Nat.blt_eq, hb]; simp
      have hf : 0 < f := by
        rcases Nat.eq_zero_or_pos f with h0 | h0
        · subst h0; omega
        · exact h0
      have hd : n / 10 < 10 ^ f := by rw [Nat.pow_succ] at h; omega
      simp only [cond_false]
      rw [digN_more f (n / 10) hd hf]
theorem decDigits_digN : ∀ f n, n < 10 ^ f → 0 < f → Lib.decDigits n = digN f n
  | 0, _, _, h => absurd h (by omega)
  | f + 1, n, h, _ => by
    rw [Lib.decDigits]
    show _ = (bif Nat.blt n 10 then _ else digN f (n / 10) ++ _)
    by_cases h10 : n < 10
    · have hb : Nat.blt n 10 = true := by rw [Nat.blt_eq]; exact h10
      rw [dif_pos h10, hb]; rfl
    · have hb : Nat.blt n 10 = false := by
        cases hb : Nat.blt n 10 with
        | false => rfl
        | true => exact absurd (by rw [Nat.blt_eq] at hb; exact hb) h10
      have hf : 0 < f := by
        rcases Nat.eq_zero_or_pos f with h0 | h0
        · subst h0; omega
        · exact h0
      have hd : n / 10 < 10 ^ f := by rw [Nat.pow_succ] at h; omega
      rw [dif_neg h10, hb, decDigits_digN f (n / 10) hd hf]
      rfl
theorem itoa_eq {n : Int} (h0 : -9223372036854775808 ≤ n) (h1 : n ≤ 9223372036854775807) : Lib.itoa n = itoaF n := by
  unfold Lib.itoa itoaF natT
  by_cases h : n < 0
  · rw [if_pos h, decDigits_digN 20 n.natAbs (by omega) (by omega)]
    have : decide (n < 0) = true := by simpa using h
    rw [this]; rfl
  · rw [if_neg h]
    have : decide (n < 0) = false := by simpa using h
    rw [this]
    rw [decDigits_digN 20 _ (by omega) (by omega)]
    simp
end Go.Ev
/- Sound costs, and configurations that may be, plainly. -/
set_option linter.unusedVariables false
set_option linter.unusedSimpArgs false
namespace Go.Ev
def costAt (c : DCosts) (n : Int) : Int := c.2.getD n.toNat 0
def okAt (c : DCosts) (n : Int) : Bool := bif hasF c.1 n then rcostF (costAt c n) else costAt c n == 0
def allOk (c : DCosts) : Nat → Bool
  | 0 => true
  | k + 1 => okAt c (16 - (k + 1 : Nat)) && allOk c k
def soundF (c : DCosts) : Bool := bif bif decide (c.1 < 0) then true else decide (c.1 ≥ 65536) then false else allOk c 16
def firstBad (c : DCosts) : Nat → Int
  | 0 => 16
  | k + 1 => bif okAt c (16 - (k + 1 : Nat)) then firstBad c k else 16 - (k + 1 : Nat)

def goodL (c : DCosts) (l : List Int) : Bool := l.all fun n => rcostF (costAt c n)
def fillL (c : DCosts) : List Int → List Int → List Int
  | [], w => w
  | n :: r, w => fillL c r (w.set n.toNat (costAt c n))
def badL (c : DCosts) : List Int → List Int → Int → Int × List Int
  | [], w, i => (i, w)
  | n :: r, w, i => bif rcostF (costAt c n) then badL c r (w.set n.toNat (costAt c n)) (i + 1) else (i, w)

theorem drop_step {α : Type} {l : List α} {i : Int} (d : α) (h0 : 0 ≤ i) (h1 : i < l.length) : l.drop i.toNat = l.getD i.toNat d :: l.drop (i + 1).toNat := by
  have h : i.toNat < l.length := by omega
  rw [List.drop_eq_getElem_cons h, show (i + 1).toNat = i.toNat + 1 by omega]
  simp [List.getD, h]

theorem mem_elems {s n : Int} : ∀ {k : Nat}, k ≤ 16 → (n ∈ elemsF s k ↔ 16 - (k : Int) ≤ n ∧ n < 16 ∧ hasF s n = true)
  | 0, _ => by simp [elemsF]; omega
  | k + 1, hk => by
    rw [elemsF, List.mem_append, mem_elems (by omega)]
    by_cases hn : n = 16 - ((k + 1 : Nat) : Int)
    · subst hn
      cases hasF s (16 - ((k + 1 : Nat) : Int)) <;> simp <;> omega
    · have : n ∈ (bif hasF s (16 - ((k + 1 : Nat) : Int)) then [(16 : Int) - ((k + 1 : Nat) : Int)] else []) ↔ False := by
        cases hasF s (16 - ((k + 1 : Nat) : Int)) with
        | false => simp
        | true => simp only [cond_true, List.mem_singleton, hn]
      rw [this, false_or]
      constructor
      · rintro ⟨a, b, c⟩; exact ⟨by omega, b, c⟩
      · rintro ⟨a, b, c⟩; exact ⟨by omega, b, c⟩

theorem allOk_iff {c : DCosts} : ∀ {k : Nat}, k ≤ 16 → (allOk c k = true ↔ ∀ n : Int, 16 - (k : Int) ≤ n → n < 16 → okAt c n = true)
  | 0, _ => by simp [allOk]; intro n h1 h2; omega
  | k + 1, hk => by
    rw [allOk, Bool.and_eq_true, allOk_iff (by omega)]
    constructor
    · rintro ⟨a, b⟩ n h1 h2
      by_cases hn : n = 16 - ((k + 1 : Nat) : Int)
      · rw [hn]; exact a
      · exact b n (by omega) h2
    · intro h
      exact ⟨h _ (by omega) (by omega), fun n h1 h2 => h n (by omega) h2⟩

theorem fill_len (c : DCosts) : ∀ (l w : List Int), (fillL c l w).length = w.length
  | [], w => rfl
  | n :: r, w => by rw [fillL, fill_len c r]; simp
theorem fill_get (c : DCosts) : ∀ (l w : List Int) (j : Nat), (∀ n ∈ l, 0 ≤ n) → j < w.length → (fillL c l w).getD j 0 = if (j : Int) ∈ l then costAt c j else w.getD j 0
  | [], w, j, _, hj => by simp [fillL]
  | n :: r, w, j, hp, hj => by
    have hn := hp n (by simp)
    rw [fillL, fill_get c r _ j (fun m hm => hp m (by simp [hm])) (by simpa using hj)]
    by_cases h : (j : Int) ∈ r
    · simp [h]
    · rw [if_neg h]
      by_cases h2 : (j : Int) = n
      · subst h2
        simp [hj]
      · have h3 : n.toNat ≠ j := by omega
        have h4 : ¬ (j : Int) ∈ n :: r := by simp [h, h2]
        rw [if_neg h4]
        simp [List.getD, List.getElem?_set, h3]

theorem go_int {k : IntKind} : ∀ (x y : List Int), x.length = y.length → geq.go (geq (.int k)) x y = decide (x = y)
  | [], [], _ => rfl
  | a :: x, b :: y, h => by
    have ih := go_int (k := k) x y (by simpa using h)
    simp only [geq.go, ih]
    show (a == b && decide (x = y)) = _
    rw [Bool.eq_iff_iff]
    simp
  | [], _ :: _, h => by simp at h
  | _ :: _, [], h => by simp at h
theorem geqArr {n : Nat} {k : IntKind} {x y : List Int} (h : x.length = y.length) : geq (.arr n (.int k)) x y = decide (x = y) := go_int x y h

theorem sound_core {c : DCosts} (hl : c.2.length = 16) :
    (bif goodL c (elemsF c.1 16) then geq (.arr 16 (.int .u32)) c.2 (fillL c (elemsF c.1 16) (List.replicate 16 0)) else false) = allOk c 16 := by
  obtain ⟨z, hz⟩ : ∃ z, z = List.replicate 16 (0 : Int) := ⟨_, rfl⟩
  have zl : z.length = 16 := by rw [hz]; rfl
  have z0 : ∀ j, z.getD j 0 = 0 := fun j => by
    rw [hz, List.getD, List.getElem?_replicate]
    split <;> rfl
  rw [← hz]
  clear hz
  rw [geqArr (by rw [fill_len, hl, zl]), Bool.eq_iff_iff, allOk_iff (Nat.le_refl _)]
  have hpos : ∀ n ∈ elemsF c.1 16, (0 : Int) ≤ n := fun n hn => by
    have := (mem_elems (Nat.le_refl _)).1 hn
    omega
  have hg : goodL c (elemsF c.1 16) = true ↔ ∀ n : Int, 0 ≤ n → n < 16 → hasF c.1 n = true → rcostF (costAt c n) = true := by
    unfold goodL
    rw [List.all_eq_true]
    constructor
    · intro h n h1 h2 h3
      exact h n ((mem_elems (Nat.le_refl _)).2 ⟨by omega, h2, h3⟩)
    · intro h n hn
      obtain ⟨h1, h2, h3⟩ := (mem_elems (Nat.le_refl _)).1 hn
      exact h n (by omega) h2 h3
  have he : c.2 = fillL c (elemsF c.1 16) z ↔ ∀ n : Int, 0 ≤ n → n < 16 → hasF c.1 n = false → costAt c n = 0 := by
    constructor
    · intro h n h1 h2 h3
      have hg := fill_get c (elemsF c.1 16) z n.toNat hpos (by omega)
      rw [← h] at hg
      have hm : ¬ ((n.toNat : Nat) : Int) ∈ elemsF c.1 16 := by
        rw [show ((n.toNat : Nat) : Int) = n by omega, mem_elems (Nat.le_refl _), h3]
        simp
      rw [if_neg hm] at hg
      unfold costAt
      rw [hg]
      exact z0 _
    · intro h
      apply List.ext_getElem
      · rw [fill_len, hl, zl]
      · intro j h1 h2
        have hj : j < 16 := by omega
        have hg := fill_get c (elemsF c.1 16) z j hpos (by omega)
        have e1 : (fillL c (elemsF c.1 16) z).getD j 0 = (fillL c (elemsF c.1 16) z)[j] := by rw [List.getD, List.getElem?_eq_getElem h2]; rfl
        have e2 : costAt c j = c.2[j] := by simp [costAt, List.getD, h1]
        rw [← e1, hg, ← e2]
        cases hb : hasF c.1 j with
        | true => rw [if_pos ((mem_elems (Nat.le_refl _)).2 ⟨by omega, by omega, hb⟩)]
        | false =>
          have hm : ¬ (j : Int) ∈ elemsF c.1 16 := by rw [mem_elems (Nat.le_refl _), hb]; simp
          rw [if_neg hm, h j (by omega) (by omega) hb]
          exact (z0 _).symm
  constructor
  · intro h n h1 h2
    cases hgg : goodL c (elemsF c.1 16) with
    | false => rw [hgg] at h; cases h
    | true =>
      rw [hgg] at h
      have h' := he.1 (of_decide_eq_true h)
      unfold okAt
      cases hb : hasF c.1 n with
      | true => exact hg.1 hgg n (by omega) h2 hb
      | false =>
        have := h' n (by omega) h2 hb
        simp [this]
  · intro h
    have h1 : goodL c (elemsF c.1 16) = true := hg.2 fun n h1 h2 h3 => by
      have := h n (by omega) h2
      unfold okAt at this
      rw [h3] at this
      exact this
    rw [h1]
    simp only [cond_true, decide_eq_true_eq]
    refine he.2 fun n h1 h2 h3 => ?_
    have := h n (by omega) h2
    unfold okAt at this
    rw [h3] at this
    simpa using this
theorem round_ok {c : DCosts} {n : Int} :
    (bif !geq GTy.bool (hasF c.1 n) (bif decide (costAt c n ≥ 1) then decide (costAt c n ≤ 65536) else false) then true else bif !hasF c.1 n then costAt c n != 0 else false) = !okAt c n := by
  unfold okAt rcostF
  rw [geqB]
  cases hasF c.1 n with
  | true => simp
  | false =>
    by_cases h : costAt c n = 0
    · simp [h]
    · have : (costAt c n != 0) = true := by simpa using h
      rw [this]
      have h2 : (costAt c n == 0) = false := by simpa using h
      rw [h2]
      simp
theorem sound_fn {c : DCosts} (hl : c.2.length = 16) :
    (bif bif decide (c.1 < 0) then true else decide (c.1 ≥ 65536) then false else bif goodL c (elemsF c.1 16) then geq (.arr 16 (.int .u32)) c.2 (fillL c (elemsF c.1 16) (List.replicate 16 0)) else false) = soundF c := by
  rw [sound_core hl]
  rfl
theorem rsound_fn (c : DCosts) : (bif allOk c 16 then bif decide (c.1 ≥ 0) then decide (c.1 ≤ 65535) else false else false) = soundF c := by
  unfold soundF
  cases allOk c 16 <;> by_cases h1 : c.1 < 0 <;> by_cases h2 : c.1 ≥ 65536 <;> simp [h1, h2] <;> omega
end Go.Ev
/- Equality of values, told as equality. -/
set_option linter.unusedVariables false
namespace Go.Ev
theorem geq_go_self {α : Type} {f : α → α → Bool} (h : ∀ x, f x x = true) : ∀ l : List α, geq.go f l l = true
  | [] => rfl
  | x :: l => by rw [geq_go_cons, h, geq_go_self h l]; rfl
theorem geq_self : ∀ (g : GTy) (x : den g), cmp g = true → geq g x x = true
  | .bool, x, _ => by simp [geq]
  | .int _, x, _ => by simp [geq]
  | .str, x, _ => by simp [geq]
  | .unit, _, _ => rfl
  | .prod a b, x, h => by
    have h' : (cmp a && cmp b) = true := h
    rw [Bool.and_eq_true] at h'
    show (geq a x.1 x.1 && geq b x.2 x.2) = true
    rw [geq_self a _ h'.1, geq_self b _ h'.2]; rfl
  | .arr n a, x, h => geq_go_self (fun y => geq_self a y h) x
  | .sl _, _, h => by cases h
  | .err, _, h => by cases h
end Go.Ev
/- Counts, in plain Lean. -/
set_option linter.unusedVariables false
set_option linter.unusedSimpArgs false
namespace Go.Ev
theorem blt_true {j i : Nat} (h : j < i) : Nat.blt j i = true := by rw [Nat.blt_eq]; exact h
theorem blt_false {j i : Nat} (h : ¬ j < i) : Nat.blt j i = false := by
  cases hb : Nat.blt j i with
  | false => rfl
  | true => rw [Nat.blt_eq] at hb; exact absurd hb h
theorem getD_set {o : List Int} {i j : Nat} {v : Int} (h : i < o.length) : (o.set i v).getD j 0 = if i = j then v else o.getD j 0 := by
  simp only [List.getD, List.getElem?_set]
  by_cases hij : i = j
  · subst hij; simp [h]
  · simp [hij]
def digF (n : Int) : List UInt8 := bif decide (n < 0) then [45] else natT n.toNat
theorem dig_one {x : Int} (h0 : 0 ≤ x) (h1 : x < 10) : bytesToStr [IntKind.wrap IntKind.u8 (IntKind.wrap IntKind.i64 ((48 : Int) + x))] = digF x := by
  rw [show IntKind.wrap IntKind.i64 ((48 : Int) + x) = 48 + x from i64_id (by omega) (by omega), show IntKind.wrap IntKind.u8 ((48 : Int) + x) = 48 + x from u8_id (by omega) (by omega)]
  unfold digF natT
  have e : decide (x < 0) = false := by simp; omega
  have e2 : Nat.blt x.toNat 10 = true := blt_true (by omega)
  rw [e]
  show _ = (bif Nat.blt x.toNat 10 then _ else _)
  rw [e2]
  show [UInt8.ofNat (48 + x).toNat] = [UInt8.ofNat (48 + x.toNat)]
  rw [show (48 + x).toNat = 48 + x.toNat by omega]
theorem dig_more {x : Int} (h0 : ¬ x < 10) (h1 : x ≤ 9223372036854775807) : digF (IntKind.wrap IntKind.i64 (Int.tdiv x (10 : Int))) ++ bytesToStr [IntKind.wrap IntKind.u8 (IntKind.wrap IntKind.i64 ((48 : Int) + Int.tmod x (10 : Int)))] = digF x := by
  rw [Int.tdiv_eq_ediv_of_nonneg (by omega), Int.tmod_eq_emod_of_nonneg (by omega)]
  rw [show IntKind.wrap IntKind.i64 (x / 10) = x / 10 from i64_id (by omega) (by omega), show IntKind.wrap IntKind.i64 ((48 : Int) + x % 10) = 48 + x % 10 from i64_id (by omega) (by omega), show IntKind.wrap IntKind.u8 ((48 : Int) + x % 10) = 48 + x % 10 from u8_id (by omega) (by omega)]
  unfold digF natT
  have e : decide (x < 0) = false := by simp; omega
  have e1 : decide (x / 10 < 0) = false := by simp; omega
  have e2 : Nat.blt x.toNat 10 = false := blt_false (by omega)
  rw [e, e1]
  show digN 20 (x / 10).toNat ++ _ = (bif Nat.blt x.toNat 10 then _ else digN 19 (x.toNat / 10) ++ [UInt8.ofNat (48 + x.toNat % 10)])
  rw [e2]
  simp only [cond_false]
  rw [show (x / 10).toNat = x.toNat / 10 by omega, digN_more 19 (x.toNat / 10) (by omega) (by omega)]
  show _ ++ [UInt8.ofNat (48 + x % 10).toNat] = _
  rw [show (48 + x % 10).toNat = 48 + x.toNat % 10 by omega]
end Go.Ev
/- Trees of destinations, in plain Lean. -/
set_option linter.unusedVariables false
set_option linter.unusedSimpArgs false
namespace Go.Ev
abbrev DEnt := Int × Int
def entAt (t : List DEnt) (i : Nat) : DEnt := t.getD i ((0 : Int), (0 : Int))
theorem has_nat {m n : Nat} (hn : n < 16) : hasF (m : Int) (n : Int) = m.testBit n := by
  unfold hasF
  rw [right_nat hn, cond_true, bit_at hn, Nat.testBit_eq_decide_div_mod_eq]
  have : ((m : Int) / (2 ^ n : Nat)) % 2 = ((m / 2 ^ n % 2 : Nat) : Int) := by rw [Int.natCast_emod, Int.natCast_ediv]; rfl
  rw [this, Bool.eq_iff_iff]
  simp only [beq_iff_eq, decide_eq_true_eq]
  omega
theorem with_nat {m j : Nat} (hm : m < 65536) (hj : j < 16) : withF (m : Int) (j : Int) = ((m ||| 2 ^ j : Nat) : Int) := by
  have hp : 2 ^ j ≤ 2 ^ 15 := Nat.pow_le_pow_right (by omega) (by omega)
  have h15 : (2 : Nat) ^ 15 = 32768 := by decide
  have ho : m ||| 2 ^ j < 2 ^ 16 := Nat.or_lt_two_pow (by omega) (by omega)
  have h16 : (2 : Nat) ^ 16 = 65536 := by decide
  unfold withF
  rw [right_nat hj]
  simp only [Bool.not_true, cond_false]
  have e : min (j : Int).toNat 64 = j := by omega
  have e2 : (1 : Int) * 2 ^ j = ((2 ^ j : Nat) : Int) := by simp
  rw [e, e2]
  generalize 2 ^ j = p at hp ho ⊢
  rw [i64_id (by omega) (by omega)]
  exact or_nat (by omega) (by show (m : Int) < 2 ^ 64; omega) (by omega) (by show (p : Int) < 2 ^ 64; omega) ((has_i64 _).2 (by simp only [Int.toNat_natCast]; omega))
end Go.Ev
/- Links, in plain Lean. -/
set_option linter.unusedVariables false
set_option linter.unusedSimpArgs false
namespace Go.Ev
def ofF (c : DCosts) (n : Int) : Int := bif !hasF c.1 n then 4294967295 else c.2.getD n.toNat 0
theorem has_in {s n : Int} (h : hasF s n = true) : 0 ≤ n ∧ n < 16 := by
  unfold hasF at h
  cases hr : rightF n with
  | true => exact rightF_iff.1 hr
  | false => rw [hr] at h; cases h
theorem set_bad {n w : Int} : (bif bif !rightF n then true else decide (w < (1 : Int)) then true else decide (w > (65536 : Int))) = (bif !rightF n then true else !rcostF w) := by
  unfold rcostF
  cases rightF n with
  | false => rfl
  | true =>
    by_cases h1 : w < 1
    · rw [decide_eq_true h1, decide_eq_false (show ¬ w ≥ 1 by omega)]; rfl
    · rw [decide_eq_false h1, decide_eq_true (show w ≥ 1 by omega)]
      by_cases h2 : w > 65536
      · rw [decide_eq_true h2, decide_eq_false (show ¬ w ≤ 65536 by omega)]; rfl
      · rw [decide_eq_false h2, decide_eq_true (show w ≤ 65536 by omega)]; rfl
def cOK (c : DCosts) : Prop := c.2.length = 16 ∧ ∀ j : Nat, 0 ≤ c.2.getD j 0 ∧ c.2.getD j 0 ≤ 4294967295
theorem cOK_wt {c : DCosts} (h : wt gCosts c) : cOK c := ⟨h.2.1, fun j => by
  by_cases hl : j < c.2.length
  · have h3 : IntKind.u32.has (c.2[j]) := h.2.2 (c.2[j]) (List.getElem_mem hl)
    rw [has_u32] at h3
    simpa [List.getD, hl] using h3
  · have : c.2.getD j (0 : Int) = 0 := by simp [List.getD, Nat.not_lt.1 hl]
    rw [this]; exact ⟨Int.le_refl _, by decide⟩⟩
theorem sound_iff {c : DCosts} : soundF c = true ↔ ∃ m : Nat, m < 65536 ∧ c.1 = (m : Int) ∧ ∀ n : Nat, n < 16 → (bif m.testBit n then rcostF (c.2.getD n 0) else c.2.getD n 0 == 0) = true := by
  have hok : ∀ m n : Nat, n < 16 → c.1 = (m : Int) → okAt c (n : Int) = (bif m.testBit n then rcostF (c.2.getD n 0) else c.2.getD n 0 == 0) := fun m n hn hm => by
    unfold okAt costAt
    rw [hm, has_nat hn]
    rfl
  constructor
  · intro h
    unfold soundF at h
    by_cases h0 : c.1 < 0
    · rw [decide_eq_true h0] at h; cases h
    · by_cases h1 : c.1 ≥ 65536
      · rw [decide_eq_false h0, decide_eq_true h1] at h; cases h
      · rw [decide_eq_false h0, decide_eq_false h1] at h
        have h2 : allOk c 16 = true := h
        obtain ⟨m, hm⟩ := Int.eq_ofNat_of_zero_le (show 0 ≤ c.1 by omega)
        refine ⟨m, by omega, hm, fun n hn => ?_⟩
        rw [← hok m n hn hm]
        exact (allOk_iff (Nat.le_refl _)).1 h2 n (by omega) (by omega)
  · rintro ⟨m, hm, hc, hn⟩
    unfold soundF
    rw [decide_eq_false (show ¬ c.1 < 0 by omega), decide_eq_false (show ¬ c.1 ≥ 65536 by omega)]
    show allOk c 16 = true
    refine (allOk_iff (Nat.le_refl _)).2 fun n h0 h1 => ?_
    obtain ⟨k, rfl⟩ := Int.eq_ofNat_of_zero_le (show 0 ≤ n by omega)
    rw [hok m k (by omega) hc]
    exact hn k (by omega)
end Go.Ev
/- Links set, cut and asked. -/
set_option linter.unusedVariables false
set_option linter.unusedSimpArgs false
namespace Go.Ev.D
open Go.Proofs
def rcostC : Ctr := { args := [.int .u32], res := [.bool], pre := none, fn := fun (x : Int) => rcostF x }
def rcostG : List (Nat × Ctr) := []
theorem rcost_tree : (fun x : Int => evFn (mkC tys rcostG []) (fnOf Tryd.prog 108) (resL rcostC.args x) rcostC.res) =
  (fun x => Tree.leaf (bif decide (x ≥ (1 : Int)) then decide (x ≤ (65536 : Int)) else false)) := by kernel_rfl
theorem rcost_ok : CtrOK Tryd.prog 108 rcostC :=
  fun_ok (G := rcostG) (Λ := []) tysOK ctrs_nil mixed (by kernel_rfl) (by kernel_rfl) (by kernel_rfl) (by kernel_rfl) lp_nil fun (x : Int) hw _ => by
    rw [congrFun rcost_tree x]
    exact holds_val (d := rcostC.fn x) (by kernel_rfl) (by simp [Tree.safe])
def csetC : Ctr := { args := [gCosts, .int .i64, .int .u32], res := [gCosts, .int .i64], pre := none, fn := fun (x : DCosts × Int × Int) => csetF x.1 x.2.1 x.2.2 }
def csetG : List (Nat × Ctr) := [(72, rightC), (108, rcostC), (100, withC)]
theorem cset_tree : (fun x : DCosts × Int × Int => evFn (mkC tys csetG []) (fnOf Tryd.prog 42) (resL csetC.args x) csetC.res) =
  (fun x =>
    Tree.br (bif !rightF x.2.1 then true else !rcostF x.2.2) (Tree.leaf (x.1, (1 : Int)))
      (Tree.need ((0 : Int) ≤ x.2.1 ∧ x.2.1 < (16 : Int)) (Tree.leaf ((withF x.1.1 x.2.1, List.set x.1.2 (Int.toNat x.2.1) x.2.2), (0 : Int))))) := by kernel_rfl
theorem cset_ok : CtrOK Tryd.prog 42 csetC :=
  fun_ok (G := csetG) (Λ := []) tysOK (ctrs_cons right_ok (ctrs_cons rcost_ok (ctrs_cons with_ok ctrs_nil))) mixed (by kernel_rfl) (by kernel_rfl) (by kernel_rfl) (by kernel_rfl) lp_nil fun (x : DCosts × Int × Int) hw _ => by
    rw [congrFun cset_tree x]
    exact holds_val (d := csetC.fn x) (by kernel_rfl) (by simp [Tree.safe]; intro h _; exact rightF_iff.1 h)
def rcsetC : Ctr := csetC
def rcsetG : List (Nat × Ctr) := [(99, rrightC), (101, rwithC)]
theorem rcsetG_ok : CtrsOK Tryd.prog (fun f => lk f rcsetG) := (ctrs_cons rright_ok (ctrs_cons rwith_ok ctrs_nil))
theorem rcset_tree : (fun x : DCosts × Int × Int => evFn (mkC tys rcsetG []) (fnOf Tryd.prog 43) (resL rcsetC.args x) rcsetC.res) =
  (fun x =>
    Tree.br (bif bif !rightF x.2.1 then true else decide (x.2.2 < (1 : Int)) then true else decide (x.2.2 > (65536 : Int))) (Tree.leaf (x.1, (1 : Int)))
      (Tree.need ((0 : Int) ≤ x.2.1 ∧ x.2.1 < (16 : Int)) (Tree.leaf ((withF x.1.1 x.2.1, List.set x.1.2 (Int.toNat x.2.1) x.2.2), (0 : Int))))) := by kernel_rfl
theorem rcset_ok : CtrOK Tryd.prog 43 rcsetC :=
  fun_ok (G := rcsetG) (Λ := []) tysOK rcsetG_ok mixed (by kernel_rfl) (by kernel_rfl) (by kernel_rfl) (by kernel_rfl) lp_nil fun (x : DCosts × Int × Int) hw _ => by
    rw [congrFun rcset_tree x]
    have e : rcsetC.fn x = csetF x.1 x.2.1 x.2.2 := rfl
    rw [e]
    unfold csetF
    simp only [Tree.holds]
    rw [set_bad]
    refine ⟨fun h => by rw [h]; rfl, fun h => ?_⟩
    rw [h]
    refine ⟨?_, rfl⟩
    cases hr : rightF x.2.1 with
    | true => exact rightF_iff.1 hr
    | false => rw [hr] at h; cases h
def ofC : Ctr := { args := [gCosts, .int .i64], res := [.int .u32], pre := none, fn := fun (x : DCosts × Int) => ofF x.1 x.2 }
def ofG : List (Nat × Ctr) := [(41, hasC)]
theorem of_tree : (fun x : DCosts × Int => evFn (mkC tys ofG []) (fnOf Tryd.prog 48) (resL ofC.args x) ofC.res) =
  (fun x => Tree.br (!hasF x.1.1 x.2) (Tree.leaf (4294967295 : Int)) (Tree.need ((0 : Int) ≤ x.2 ∧ x.2 < (16 : Int)) (Tree.leaf (List.getD x.1.2 (Int.toNat x.2) (0 : Int))))) := by kernel_rfl
theorem of_ok : CtrOK Tryd.prog 48 ofC :=
  fun_ok (G := ofG) (Λ := []) tysOK (ctrs_cons has_ok ctrs_nil) mixed (by kernel_rfl) (by kernel_rfl) (by kernel_rfl) (by kernel_rfl) lp_nil fun (x : DCosts × Int) hw _ => by
    rw [congrFun of_tree x]
    exact holds_val (d := ofC.fn x) (by kernel_rfl) (by simp [Tree.safe]; exact has_in)
def rofC : Ctr := { args := [gCosts, .int .i64], res := [.int .u32], pre := none, fn := fun (x : DCosts × Int) => ofF x.1 x.2 }
def rofG : List (Nat × Ctr) := [(111, rhasC)]
theorem rof_tree : (fun x : DCosts × Int => evFn (mkC tys rofG []) (fnOf Tryd.prog 49) (resL rofC.args x) rofC.res) =
  (fun x => Tree.br (!hasF x.1.1 x.2) (Tree.leaf (4294967295 : Int)) (Tree.need ((0 : Int) ≤ x.2 ∧ x.2 < (16 : Int)) (Tree.leaf (List.getD x.1.2 (Int.toNat x.2) (0 : Int))))) := by kernel_rfl
theorem rof_ok : CtrOK Tryd.prog 49 rofC :=
  fun_ok (G := rofG) (Λ := []) tysOK (ctrs_cons rhas_ok ctrs_nil) mixed (by kernel_rfl) (by kernel_rfl) (by kernel_rfl) (by kernel_rfl) lp_nil fun (x : DCosts × Int) hw _ => by
    rw [congrFun rof_tree x]
    exact holds_val (d := rofC.fn x) (by kernel_rfl) (by simp [Tree.safe]; exact has_in)
def upC : Ctr := { args := [gCosts], res := [.sl (.int .i64)], pre := none, fn := fun (x : DCosts) => elemsF x.1 16 }
def upG : List (Nat × Ctr) := [(102, listC)]
theorem up_tree : (fun x : DCosts => evFn (mkC tys upG []) (fnOf Tryd.prog 44) (resL upC.args x) upC.res) =
  (fun x => Tree.leaf (elemsF x.1 (16 : Nat))) := by kernel_rfl
theorem up_ok : CtrOK Tryd.prog 44 upC :=
  fun_ok (G := upG) (Λ := []) tysOK (ctrs_cons list_ok ctrs_nil) mixed (by kernel_rfl) (by kernel_rfl) (by kernel_rfl) (by kernel_rfl) lp_nil fun (x : DCosts) hw _ => by
    rw [congrFun up_tree x]
    exact holds_val (d := upC.fn x) (by kernel_rfl) (by simp [Tree.safe])
def rupC : Ctr := { args := [gCosts], res := [.sl (.int .i64)], pre := none, fn := fun (x : DCosts) => elemsF x.1 16 }
def rupG : List (Nat × Ctr) := [(105, rlistC)]
theorem rup_tree : (fun x : DCosts => evFn (mkC tys rupG []) (fnOf Tryd.prog 45) (resL rupC.args x) rupC.res) =
  (fun x => Tree.leaf (elemsF x.1 (16 : Nat))) := by kernel_rfl
theorem rup_ok : CtrOK Tryd.prog 45 rupC :=
  fun_ok (G := rupG) (Λ := []) tysOK (ctrs_cons rlist_ok ctrs_nil) mixed (by kernel_rfl) (by kernel_rfl) (by kernel_rfl) (by kernel_rfl) lp_nil fun (x : DCosts) hw _ => by
    rw [congrFun rup_tree x]
    exact holds_val (d := rupC.fn x) (by kernel_rfl) (by simp [Tree.safe])
end Go.Ev.D
