/- Into a loop, and out of it. -/
import Derived.Scope
import Derived.Test.YtfahhljpjdoagaaGreatProg
import Derived.KernelRfl
import Derived.Test.YtfahhljpjdoagaaGreatTextLinkMeets3

set_option linter.unusedVariables false
set_option linter.unusedSimpArgs false
namespace Go.Ev

def subRef (M : Mem) (L : LoopSpec) (hT : Tab M.S M.w) : Ref where
  w0 := M.w
  own k := ∃ b, b ∈ L.boxes ∧ (∃ d B, lk b M.bs = some (d, B)) ∧ blkOf (M.β b) = some k
  S0 := M.S
  tab := hT

theorem RelB.renew {R R' : Ref} {w : World} {S : Stab} {v : Value} {B : Box} (h : RelB R w S v B) (hn : ∀ blk, blkOf v = some blk → R'.new blk) : RelB R' w S v B := by
  cases B with
  | var g x =>
    obtain ⟨blk, cs, e, rfl, h2, h3, h4, h5⟩ := h
    exact ⟨blk, cs, e, rfl, h2, h3, h4, hn blk rfl⟩
  | row e g xs fz =>
    obtain ⟨cs, h1, h2, h3, h4, h5, h6⟩ := h
    exact ⟨cs, h1, h2, h3, h4, h5, fun blk hb => ⟨hn blk hb, (h6 blk hb).2⟩⟩
  | iter y pos =>
    obtain ⟨blk, rfl, h2, h3, h4, h5⟩ := h
    exact ⟨blk, rfl, h2, h3, h4, hn blk rfl⟩

section
variable {P : Program} {C : Ctx} {R : Ref} {s0 s1 s2 sx : St} {a a' : Act} {w : World} {L : LoopSpec} {M : Mem}

theorem enter (I : InvM R M) (hb : M.bs = s0.boxes) (hr : ∀ t, RelV M (s0.look t) (a.tmps.getD t undef)) (H : Restr L s0 s1) : IsSt (subRef M L (R.tab.keeps I.old)) s1 a M.w := by
  refine ⟨{ M with bs := s1.boxes }, rfl, rfl, ⟨rfl, rfl, rfl, Nat.le_refl _, fun _ _ _ => rfl, Keeps.refl _ _, fun b o h => ⟨.inl h, (I.here b o h).2⟩, fun b d B hB => ?_, fun b c d B d' B' hne hB hC => ?_⟩, H.rel hb hr⟩
  · obtain ⟨_, h1, d', h2⟩ := H.box b d B hB
    rw [← hb] at h2
    exact (I.boxes b d' B h2).renew (fun blk hblk => .inr ⟨b, h1, ⟨d', B, h2⟩, hblk⟩)
  · obtain ⟨_, _, d1, h1⟩ := H.box b d B hB
    obtain ⟨_, _, d2, h2⟩ := H.box c d' B' hC
    rw [← hb] at h1 h2
    exact I.sep b c d1 B d2 B' hne h1 h2

theorem lk_mapT (f : Nat → AV → AV) (t : Nat) : ∀ l : List (Nat × AV), lk t (l.map fun (x : Nat × AV) => (x.1, f x.1 x.2)) = (lk t l).map (f t)
  | [] => rfl
  | (j, v) :: l => by
    simp only [List.map_cons, lk]
    cases hb : Nat.beq j t with
    | true => rw [Nat.eq_of_beq_eq_true hb]; rfl
    | false => exact lk_mapT f t l

def outB (L : LoopSpec) (s0 : St) : Bxs := s0.boxes.filter fun x => !(memN x.1 L.boxes)

theorem rejoin_boxes (W : List Nat) (b : Nat) : lk b (rejoin L W s0 s2).boxes = match lk b s2.boxes with | some (_, B) => some (true, B) | none => lk b (outB L s0) := by
  show lk b (s2.boxes.map (fun (x : Nat × Bool × Box) => (x.1, true, x.2.2)) ++ outB L s0) = _
  rw [lk_append, lk_marks (fun _ _ => true)]
  cases lk b s2.boxes <;> rfl

theorem lk_outB (b : Nat) : lk b (outB L s0) = if memN b L.boxes = true then none else lk b s0.boxes := lk_filter L.boxes b s0.boxes

theorem rejoin_look (H : Restr L sx s2) (W : List Nat) (t : Nat) : (rejoin L W s0 s2).look t = if memN t L.keep = true then s2.look t else match !(memN t W) && !(memN t L.keep) && live (outB L s0) (s0.look t) with | true => s0.look t | false => .undef := by
  show (lk t (s2.tmps ++ s0.tmps.map (fun (x : Nat × AV) => (x.1, match !(memN x.1 W) && !(memN x.1 L.keep) && live (outB L s0) x.2 with | true => x.2 | false => AV.undef)))).getD .undef = _
  rw [lk_append, lk_mapT (fun t v => match !(memN t W) && !(memN t L.keep) && live (outB L s0) v with | true => v | false => AV.undef), H.tmp]
  split
  · rename_i v hv
    split at hv
    · rename_i hk
      simp only [Option.some.injEq] at hv
      rw [if_pos hk, H.look, if_pos hk, hv]
      rfl
    · cases hv
  · rename_i hv
    split at hv
    · cases hv
    · rename_i hk
      rw [if_neg hk]
      unfold St.look
      cases lk t s0.tmps with
      | none =>
        simp only [Option.map_none, Option.getD_none]
        split <;> rfl
      | some v => rfl

theorem leave (I : InvM R M) (hb : M.bs = s0.boxes) (hr : ∀ t, RelV M (s0.look t) (a.tmps.getD t undef)) (H1 : Restr L s0 s1) (h2 : IsSt (subRef M L (R.tab.keeps I.old)) s2 a' w) (H : Restr L sx s2) {W : List Nat} (hf : Far (fun t => t ∈ W) s1 a s2 a') :
    IsSt R (rejoin L W s0 s2) a' w ∧ Apart (fun t => t ∈ W) s0 a (rejoin L W s0 s2) a' := by
  obtain ⟨M2, rfl, hb2, I2, hr2⟩ := h2
  have hnew : ∀ k, (subRef M L (R.tab.keeps I.old)).new k → R.new k := by
    intro k hk
    rcases hk with hk | ⟨b, _, ⟨d, B, h1⟩, h2⟩
    · exact .inl (Nat.le_trans I.size hk)
    · exact (I.boxes b d B h1).new k h2
  have hown : ∀ {b d B k}, b ∉ L.boxes → lk b M.bs = some (d, B) → blkOf (M.β b) = some k → k < M.w.heap.size ∧ ¬ (subRef M L (R.tab.keeps I.old)).new k := by
    intro b d B k hbL hB hk
    have hlt := (I.boxes b d B hB).lt k hk
    refine ⟨hlt, fun hn => ?_⟩
    rcases hn with hn | ⟨c, hc, ⟨d', B', h1⟩, h2⟩
    · exact absurd hlt (Nat.not_lt.2 hn)
    · exact I.sep b c d B d' B' (fun h => hbL (h ▸ hc)) hB h1 k hk h2
  have hk : Keeps M.S M2.S M.w M2.w := I2.old
  have hs2 : ∀ b d B, lk b s2.boxes = some (d, B) → b ∈ L.boxes := fun b d B h => (H.box b d B h).2.1
  have hin : ∀ b, b ∈ L.boxes → lk b s2.boxes ≠ none := fun b h => by
    obtain ⟨d, B, h1⟩ := H.has b h
    rw [h1]; simp
  have hbox : ∀ b d B, lk b (rejoin L W s0 s2).boxes = some (d, B) → (b ∈ L.boxes ∧ (∃ d', lk b M2.bs = some (d', B)) ∧ d = true) ∨ (b ∉ L.boxes ∧ lk b M.bs = some (d, B) ∧ lk b (outB L s0) = some (d, B)) := by
    intro b d B h
    rw [rejoin_boxes] at h
    split at h
    · rename_i d' B' h'
      simp only [Option.some.injEq, Prod.mk.injEq] at h
      obtain ⟨rfl, rfl⟩ := h
      exact .inl ⟨hs2 b d' _ h', ⟨d', by rw [hb2]; exact h'⟩, rfl⟩
    · have h0 := h
      rw [lk_outB] at h
      split at h
      · cases h
      · rename_i hm
        exact .inr ⟨fun hh => hm (memN_iff.2 hh), by rw [hb]; exact h, h0⟩
  let β : Nat → Value := fun b => if memN b L.boxes = true then M2.β b else M.β b
  have β1 : ∀ b, b ∈ L.boxes → β b = M2.β b := fun b h => if_pos (memN_iff.2 h)
  have β2 : ∀ b, b ∉ L.boxes → β b = M.β b := fun b h => if_neg (fun hh => h (memN_iff.1 hh))
  have I3 : InvM R { w := M2.w, S := M2.S, β := β, bs := (rejoin L W s0 s2).boxes } := by
    refine ⟨I2.os.trans I.os, I2.tape.trans I.tape, I2.output.trans I.output, Nat.le_trans I.size I2.size, fun k hk1 hk2 => ?_, I.old.trans hk, fun b o hS => ?_, fun b d B hB => ?_, fun b c d B d' B' hne hB hC k => ?_⟩
    · refine (I2.frame k (Nat.lt_of_lt_of_le hk1 I.size) (fun ho => ?_)).trans (I.frame k hk1 hk2)
      rcases hnew k (.inr ho) with h | h
      · exact absurd hk1 (Nat.not_lt.2 h)
      · exact hk2 h
    · obtain ⟨h1, h2⟩ := I2.here b o hS
      refine ⟨?_, h2⟩
      rcases h1 with h1 | h1
      · exact (I.here b o h1).1
      · exact .inr (hnew b h1)
    · rcases hbox b d B hB with ⟨hL, ⟨d', h⟩, _⟩ | ⟨hL, h, _⟩
      · show RelB R M2.w M2.S (β b) B
        rw [β1 b hL]
        have := I2.boxes b d' B h
        exact this.renew (fun blk hblk => hnew blk (this.new blk hblk))
      · show RelB R M2.w M2.S (β b) B
        rw [β2 b hL]
        refine (I.boxes b d B h).move hk (fun blk hblk => ?_) (fun blk o hblk hS => ?_)
        · obtain ⟨h1, h2⟩ := hown hL h hblk
          exact I2.frame blk h1 (fun ho => h2 (.inr ho))
        · obtain ⟨h1, h2⟩ := hown hL h hblk
          rcases (I2.here blk o hS).1 with h3 | h3
          · exact h3
          · exact absurd h3 h2
    · show blkOf (β b) = some k → blkOf (β c) ≠ some k
      rcases hbox b d B hB with ⟨hL, ⟨d1, h⟩, _⟩ | ⟨hL, h, _⟩ <;> rcases hbox c d' B' hC with ⟨hL', ⟨d2, h'⟩, _⟩ | ⟨hL', h', _⟩
      · rw [β1 b hL, β1 c hL']
        exact I2.sep b c d1 B d2 B' hne h h' k
      · rw [β1 b hL, β2 c hL']
        intro h1 h2
        exact (hown hL' h' h2).2 ((I2.boxes b d1 B h).new k h1)
      · rw [β2 b hL, β1 c hL']
        intro h1 h2
        exact (hown hL h h1).2 ((I2.boxes c d2 B' h').new k h2)
      · rw [β2 b hL, β2 c hL']
        exact I.sep b c d B d' B' hne h h' k
  have st2 : Step M2 { w := M2.w, S := M2.S, β := β, bs := (rejoin L W s0 s2).boxes } (fun _ => False) := by
    refine ⟨Keeps.refl _ _, fun b d B hB _ => ?_⟩
    rw [hb2] at hB
    exact ⟨true, B, by rw [rejoin_boxes, hB], β1 b (hs2 b d B hB), Box.le_refl B⟩
  have st1 : Step M { w := M2.w, S := M2.S, β := β, bs := (rejoin L W s0 s2).boxes } (fun b => lk b (outB L s0) = none) := by
    refine ⟨hk, fun b d B hB hK => ?_⟩
    have hL : b ∉ L.boxes := fun hL => hK (by rw [lk_outB, if_pos (memN_iff.2 hL)])
    refine ⟨d, B, ?_, β2 b hL, Box.le_refl B⟩
    rw [rejoin_boxes]
    have hn : lk b s2.boxes = none := by
      cases h : lk b s2.boxes with
      | none => rfl
      | some y => exact absurd (hs2 b y.1 y.2 h) hL
    rw [hn]
    simp only
    rw [lk_outB, if_neg (fun h => hL (memN_iff.1 h)), ← hb]
    exact hB
  refine ⟨⟨{ w := M2.w, S := M2.S, β := β, bs := (rejoin L W s0 s2).boxes }, rfl, rfl, I3, fun t => ?_⟩, hf.size, hf.defers, hf.tmps, fun t ht => ?_, fun b B hB => ?_⟩
  · rw [rejoin_look H]
    split
    · exact (hr2 t).steps st2
    · split
      · rename_i hc
        simp only [Bool.and_eq_true, Bool.not_eq_true'] at hc
        obtain ⟨⟨h1, h2⟩, h3⟩ := hc
        rw [hf.tmps t (fun h => by rw [memN_iff.2 h] at h1; cases h1)]
        exact (hr t).step st1 (live_has h3)
      · simp [RelV]
  · rw [rejoin_look H]
    split
    · rename_i hkp
      rcases hf.look t ht with h | h
      · exact .inl h
      · rw [h, H1.look, if_pos hkp]
        exact .inr rfl
    · split
      · exact .inr rfl
      · exact .inl rfl
  · rcases hbox b false B hB with ⟨_, _, h⟩ | ⟨_, h, _⟩
    · cases h
    · rw [← hb]; exact h
end
end Go.Ev
/- Regions in which an operation may panic. -/
set_option linter.unusedVariables false
set_option linter.unusedSimpArgs false
namespace Go.Ev
def DCtrOK (P : Program) (f : Nat) (d : DCtr) : Prop :=
  (∃ fn, P.funcs[f]? = some fn ∧ fn.body.isNone = false ∧ (fn.name == "runtime.NumGoroutine") = false) ∧
  ∀ (w : World) (S : Stab) (us : List Value) (x : dens d.args), (∀ b o, S b o → b < w.heap.size) → Tab S w → EncD w S d.args x us → d.pre x →
    Calls P f us.toArray w (fun e w' => Grows w w' ∧ ((d.die x = true ∧ e = .panicked [{ v := d.val x, recovered := false }]) ∨
      (d.die x = false ∧ ∃ v, e = .returned v ∧ ∃ N : Stab, (∀ b o, N b o → w.heap.size ≤ b ∧ b < w'.heap.size) ∧ RelRes w' (fun b o => S b o ∨ N b o) d.res (d.fn x) v)))

theorem DCtrOK.ctr {P : Program} {f : Nat} {d : DCtr} (h : DCtrOK P f d) : CtrOK P f d.ctr :=
  ⟨h.1, fun w S us x h1 h2 h3 h4 => (h.2 w S us x h1 h2 h3 (h4 _ rfl).1).mono fun e w' he => by
    have hx : d.die x = false := (h4 _ rfl).2
    obtain ⟨hg, ⟨h5, _⟩ | ⟨_, v, h6, N, h7, h8⟩⟩ := he
    · rw [hx] at h5; cases h5
    · exact ⟨v, h6, hg, N, h7, h8⟩⟩

def DsOK (P : Program) (C : Ctx) : Prop := ∀ f d, C.Δ f = some d → C.Γ f = some d.ctr ∧ DCtrOK P f d

theorem dieOf_spec {C : Ctx} {o : Oper} {args : List Arg} {p : Prop × Bool × Value} (h : dieOf C o args = some p) :
    ∃ (f : Nat) (aas : Array Operand) (ts : Array TypeId) (d : DCtr) (a0 : Arg) (rest : List Arg) (x : dens d.args) (ws : List (Nat × Bool × Box)), o.op = .call { callee := .value (.func f), args := aas, argTypes := ts } ∧ args = a0 :: rest ∧ C.Δ f = some d ∧ takes d.args rest = some (x, ws) ∧ p = (d.pre x, d.die x, d.val x) := by
  unfold dieOf at h
  split at h
  · rename_i f aas ts a0 rest hop
    split at h
    · rename_i d hd
      split at h
      · rename_i x ws ht
        simp only [Option.some.injEq] at h
        exact ⟨f, _, _, d, a0, rest, x, ws, hop, rfl, hd, ht, h.symm⟩
      · cases h
    · cases h
  · cases h

section
variable {P : Program} {C : Ctx} {R : Ref} {M : Mem} {a : Act}
theorem dieOf_need (DK : DsOK P C) {o : Oper} {args : List Arg} {p : Prop × Bool × Value} {key : Nat} {e : Eff} (h : dieOf C o args = some p) (he : opEff C.τ C.Γ key o args = some e) (hq : p.1) (hp : p.2.1 = false) : e.ok := by
  obtain ⟨f, aas, ts, d, a0, rest, x, ws, hop, rfl, hd, ht, rfl⟩ := dieOf_spec h
  obtain ⟨hG, _⟩ := DK f d hd
  unfold opEff at he
  rw [hop] at he
  simp only [hG] at he
  have ht' : takes d.ctr.args rest = some (x, ws) := ht
  cases hb : Nat.blt f cloB with
  | false => rw [hb] at he; cases he
  | true =>
  rw [hb] at he
  simp only [ht', Option.some.injEq] at he
  subst he
  intro q hq'
  simp only [DCtr.ctr, Option.map_some, Option.some.injEq] at hq'
  subst hq'
  exact ⟨hq, hp⟩
theorem die_wp (DK : DsOK P C) (I : InvM R M) {o : Oper} {av : Operand → AV} (hr : OpRel M av a.eval o) {p : Prop × Bool × Value} (h : dieOf C o (o.op.operands.toList.map fun x => argOf M.bs (av x)) = some p) (hq : p.1) (hp : p.2.1 = true)
    {next : Act → World → Prop} {Q : Exit → Act → World → Prop} (hQ : ∀ w', Grows M.w w' → Q (.panic [{ v := p.2.2, recovered := false }]) a w') : o.wp P a M.w next Q := by
  obtain ⟨f, aas, ts, d, a0, rest, x, ws, hop, hargs, hd, ht, rfl⟩ := dieOf_spec h
  obtain ⟨_, ⟨fn, h1, h2, h3⟩, h4⟩ := DK f d hd
  have hops : o.op.operands.toList = .func f :: aas.toList := by rw [hop]; simp [Op.operands, Call.operands]
  rw [hops] at hargs
  simp only [List.map_cons, List.cons.injEq] at hargs
  obtain ⟨_, hrest⟩ := hargs
  have hr' : ∀ y ∈ aas.toList, RelV M (av y) (a.eval y) := fun y hy => by
    unfold OpRel at hr
    rw [hop] at hr
    exact hr y (by rw [← hop, hops]; exact List.mem_cons_of_mem _ hy)
  have hr2 : ArgsR M rest (aas.toList.map a.eval) := by
    rw [← hrest, map_arg]
    exact ArgsR.of (relL_map hr')
  obtain ⟨hk, S', fz, henc⟩ := takes_sound I hr2 ht
  have hrun : (execOp a.eval o).run P M.w = .ok (.enter f (aas.map a.eval)) M.w := by
    simp only [execOp, hop, resolve, eval_func a, Deferred.ofValue, Sem.run_bind]
    have h2' : ¬ fn.body = none := by intro hh; rw [hh] at h2; simp at h2
    have h3' : ¬ fn.name = "runtime.NumGoroutine" := by simpa using h3
    simp [invoke, callFunc, h1, h2', h3']
  unfold Oper.wp
  rw [hrun]
  simp only [Oper.upon]
  have hin : ∀ b o, S' b o → b < M.w.heap.size := fun b o hs => (fz.inv.here b o hs).2
  have := h4 M.w S' (aas.toList.map a.eval) x hin (R.tab.keeps fz.inv.old) henc hq
  rw [show (aas.toList.map a.eval).toArray = aas.map a.eval from by apply Array.toList_inj.1; simp] at this
  refine this.mono (fun e w' he => ?_)
  obtain ⟨hg, ⟨_, rfl⟩ | ⟨h5, _⟩⟩ := he
  · exact hQ w' hg
  · simp only at hp
    rw [hp] at h5
    cases h5

theorem IsSt.grown {s : St} {w w' : World} (h : IsSt R s a w) (g : Grows w w') : IsSt R s a w' := by
  obtain ⟨M, rfl, hb, I, hr⟩ := h
  obtain ⟨I2, st⟩ := I.grow g
  exact ⟨{ M with w := w' }, rfl, hb, I2, fun t => (hr t).steps st⟩
theorem runOpsD_wp (TOK : TysOK P C.τ) (GOK : CtrsOK P C.Γ) (DK : DsOK P C) {ops : Array Oper} {Q : Exit → Act → World → Prop} : ∀ (l : List Oper) (k : Nat) (s : St) (a : Act) (w : World) (F : Ex × St → Prop), (∀ i o, l[i]? = some o → ops[k + i]? = some o) →
    (∀ o ∈ l, o.guard = none ∧ ∀ d, o.dst = some d → d < a.tmps.size) → IsSt R s a w → (runOpsD C l s).holds F →
    (∀ z s' a' w', F (z, s') → IsSt R s' a' w' → Apart (fun t => ∃ o ∈ l, o.dst = some t) s a s' a' → Q z.to a' w') → wpOps P ops Q (List.range' k l.length) a w
  | [], k, s, a, w, F, _, _, hs, hF, hQ => by
    simp only [List.length_nil, List.range'_zero, wpOps]
    exact hQ .normal s a w hF hs (Apart.refl _ _ _)
  | o :: l, k, s, a, w, F, hops, hl, hs, hF, hQ => by
    have ho : ops[k]? = some o := by simpa using hops 0 o (by simp)
    simp only [List.length_cons, List.range'_succ, wpOps, ho]
    obtain ⟨hg, hd⟩ := hl o (by simp)
    rw [if_pos (by simp [Region.wanted, hg])]
    refine .inl ?_
    have cont : (contD C (runOpsD C l) o s).holds F → o.wp P a w (wpOps P ops Q (List.range' (k + 1) l.length)) Q := by
      intro hF
      unfold contD at hF
      split at hF
      · exact hF.elim
      · rename_i e he
        obtain ⟨hn, hF⟩ := holds_needO.1 hF
        refine op_wp TOK GOK hs he hn hd (fun a' w' h1 h2 => ?_)
        refine runOpsD_wp TOK GOK DK l (k + 1) _ a' w' F (fun i o' hi => by have := hops (i + 1) o' (by simpa using hi); rwa [show k + 1 + i = k + (i + 1) by omega]) (fun o' ho' => ⟨(hl o' (by simp [ho'])).1, fun d hd' => by rw [h2.size]; exact (hl o' (by simp [ho'])).2 d hd'⟩) h1 hF
          (fun z s' a'' w'' f1 f2 f3 => hQ z s' a'' w'' f1 f2 ((h2.mono (fun t ht => ⟨o, by simp, ht⟩)).trans (f3.mono (fun t ⟨o', h3, h4⟩ => ⟨o', by simp [h3], h4⟩))))
    simp only [runOpsD] at hF
    split at hF
    · rename_i x hop
      split at hF
      · rename_i t u hx
        have hev : a.eval x = .iface t u := by
          obtain ⟨M, _, _, I, hr⟩ := hs
          have := eval_rel (R.tab.keeps I.old) hr x
          rw [hx] at this
          exact this
        unfold Oper.wp
        have hrun : (execOp a.eval o).run P w = .halt (.panic (.iface t u)) w := by
          simp only [execOp, hop, hev]
          rfl
        rw [hrun]
        exact hQ (.die (.iface t u)) s a w hF hs (Apart.refl _ _ _)
      · exact hF.elim
    · split at hF
      · exact cont hF
      · rename_i q b v hdie
        simp only [Tree.holds] at hF
        obtain ⟨hq, hF⟩ := hF
        cases b with
        | false => exact cont (hF.2 rfl)
        | true =>
          have hs' := hs
          obtain ⟨M, hM, hb, I, hr⟩ := hs
          rw [args_eq s o hb] at hdie
          subst hM
          refine die_wp DK I (opRel_of (R.tab.keeps I.old) hr o) hdie hq rfl fun w' g => ?_
          exact hQ (.die v) s a w' (hF.1 rfl) (hs'.grown g) (Apart.refl _ _ _)

theorem needD_holds {α : Type} {F : α → Prop} {v : Value} : ∀ {l : List (Bool × Value)} {t : Tree α}, (needD v l t).holds F → (∀ p ∈ l, p.1 = true → p.2 = v) ∧ t.holds F
  | [], _, h => ⟨fun p hp => (by cases hp), h⟩
  | p :: l, t, h => by
    obtain ⟨h1, h2⟩ := h
    obtain ⟨h3, h4⟩ := needD_holds h2
    refine ⟨fun q hq => ?_, h4⟩
    rcases List.mem_cons.1 hq with rfl | hq
    · exact h1
    · exact h3 q hq
theorem dieT_holds {F : Ex × St → Prop} {t : Tree (Ex × St)} : ∀ {l : List (Bool × Value)}, (dieT t l).holds F → ((∀ p ∈ l, p.1 = false) ∧ t.holds F) ∨ ∃ p ∈ l, p.1 = true ∧ F (.die p.2, { tmps := [], boxes := [] }) ∧ ∀ q ∈ l, q.1 = true → q.2 = p.2
  | [], h => .inl ⟨fun p hp => (by cases hp), h⟩
  | p :: l, h => by
    obtain ⟨h1, h2⟩ := h
    cases hp : p.1 with
    | true =>
      obtain ⟨h3, h4⟩ := needD_holds (h1 hp)
      refine .inr ⟨p, by simp, hp, h4, fun q hq hqt => ?_⟩
      rcases List.mem_cons.1 hq with rfl | hq
      · rfl
      · exact h3 q hq hqt
    | false =>
      rcases dieT_holds (h2 hp) with ⟨h3, h4⟩ | ⟨p', h3, h4, h5, h6⟩
      · refine .inl ⟨fun q hq => ?_, h4⟩
        rcases List.mem_cons.1 hq with rfl | hq
        · exact hp
        · exact h3 q hq
      · refine .inr ⟨p', List.mem_cons_of_mem _ h3, h4, h5, fun q hq hqt => ?_⟩
        rcases List.mem_cons.1 hq with rfl | hq
        · rw [hp] at hqt; cases hqt
        · exact h6 q hq hqt
theorem dieL_mem : ∀ {l : List Oper} {r : List (St × Eff)} {i : Nat} {o : Oper} {x : St × Eff} {p : Prop × Bool × Value}, l[i]? = some o → r[i]? = some x → dieOf C o (x.1.args o) = some p → p.2 ∈ dieL C l r
  | [], _, _, _, _, _, h, _, _ => by simp at h
  | _ :: _, [], _, _, _, _, _, h, _ => by simp at h
  | o :: l, x :: r, 0, _, _, p, h1, h2, h3 => by
    simp at h1 h2
    subst h1; subst h2
    simp only [dieL, h3]
    exact List.mem_cons_self ..
  | o :: l, x :: r, i + 1, _, _, p, h1, h2, h3 => by
    have := dieL_mem (l := l) (r := r) (i := i) (by simpa using h1) (by simpa using h2) h3
    simp only [dieL]
    split
    · exact List.mem_cons_of_mem _ this
    · exact this
theorem dieL_of : ∀ {l : List Oper} {r : List (St × Eff)} {p : Bool × Value}, p ∈ dieL C l r → ∃ (i : Nat) (o : Oper) (x : St × Eff) (q : Prop), l[i]? = some o ∧ r[i]? = some x ∧ dieOf C o (x.1.args o) = some (q, p)
  | [], _, _, h => by simp [dieL] at h
  | _ :: _, [], _, h => by simp [dieL] at h
  | o :: l, x :: r, p, h => by
    have rec' : p ∈ dieL C l r → ∃ (i : Nat) (o' : Oper) (x' : St × Eff) (q : Prop), (o :: l)[i]? = some o' ∧ (x :: r)[i]? = some x' ∧ dieOf C o' (x'.1.args o') = some (q, p) := fun h => by
      obtain ⟨i, o', x', q, h1, h2, h3⟩ := dieL_of h
      exact ⟨i + 1, o', x', q, by simpa using h1, by simpa using h2, h3⟩
    simp only [dieL] at h
    split at h
    · rename_i q hq
      rcases List.mem_cons.1 h with rfl | h
      · exact ⟨0, o, x, q.1, by simp, by simp, hq⟩
      · exact rec' h
    · exact rec' h
theorem dieOK_spec : ∀ {l : List Oper} {r : List (St × Eff)}, dieOK C l r = true → ∀ {i : Nat} {o : Oper} {x : St × Eff} {p : Prop × Bool × Value}, l[i]? = some o → r[i]? = some x → dieOf C o (x.1.args o) = some p → o.guard = none
  | [], _, _, _, _, _, _, h, _, _ => by simp at h
  | _ :: _, [], _, _, _, _, _, _, h, _ => by simp at h
  | o :: l, x :: r, h, 0, _, _, p, h1, h2, h3 => by
    simp at h1 h2
    subst h1; subst h2
    simp only [dieOK, h3, Bool.and_eq_true, Option.isNone_iff_eq_none] at h
    exact h.1
  | o :: l, x :: r, h, i + 1, _, _, p, h1, h2, h3 => by
    simp only [dieOK, Bool.and_eq_true] at h
    exact dieOK_spec h.2 (i := i) (by simpa using h1) (by simpa using h2) h3
theorem effsNeedD_holds {all : List Oper} {F : Ex × St → Prop} : ∀ {l : List Oper} {r : List (St × Eff)} {t : Tree (Ex × St)}, (effsNeedD C all l r t).holds F →
    (∀ (i : Nat) (o : Oper) (x : St × Eff), l[i]? = some o → r[i]? = some x → (∀ p, dieOf C o (x.1.args o) = some p → p.1) ∧ (dieOf C o (x.1.args o) = none → ∀ p, gneed x.1 (chain all all.length o) x.2.need = some p → p)) ∧ t.holds F
  | [], _, t, h => ⟨fun i o x hi => by simp at hi, by simpa [effsNeedD] using h⟩
  | _ :: _, [], t, h => ⟨fun i o x _ hx => by simp at hx, by simpa [effsNeedD] using h⟩
  | o :: l, x :: r, t, h => by
    simp only [effsNeedD] at h
    split at h
    · rename_i q hq
      obtain ⟨h0, h⟩ := h
      obtain ⟨h1, h2⟩ := effsNeedD_holds h
      refine ⟨fun i o' x' hi hx => ?_, h2⟩
      cases i with
      | zero =>
        simp at hi hx
        subst hi; subst hx
        exact ⟨fun p hp => (by rw [hq] at hp; cases hp; exact h0), fun hn => (by rw [hq] at hn; cases hn)⟩
      | succ i => exact h1 i o' x' (by simpa using hi) (by simpa using hx)
    · rename_i hq
      obtain ⟨h0, h⟩ := holds_needO.1 h
      obtain ⟨h1, h2⟩ := effsNeedD_holds h
      refine ⟨fun i o' x' hi hx => ?_, h2⟩
      cases i with
      | zero =>
        simp at hi hx
        subst hi; subst hx
        exact ⟨fun p hp => (by rw [hq] at hp; cases hp), fun _ => h0⟩
      | succ i => exact h1 i o' x' (by simpa using hi) (by simpa using hx)
end
section
variable {P : Program} {C : Ctx} {R : Ref} {A : Array Oper} {r : List (St × Eff)} {s0 sE : St} {a0 a : Act} {L : Nat → Bool} {M : Mem}
theorem At.rel (K : GOK A) (G : Reg C A.toList r s0 sE) (H : At A r s0 R a0 L a M) (Cl : Closed A r L) {i : Nat} {o : Oper} {x : St × Eff} (hi : A[i]? = some o) (hx : r[i]? = some x)
    (Y : May A r L i (foot A.toList o x.1 x.2)) (hw : wnt A o a = true) : OpRel M x.1.eval a.eval o ∧ x.1.args o = o.op.operands.toList.map fun y => argOf M.bs (x.1.eval y) := by
  have hmemA : o ∈ A.toList := Array.mem_toList_iff.2 (Array.mem_of_getElem? hi)
  have hch := chain_holds K G H Cl A.toList.length i o x hi hx Y.before hw
  have hholds : holdsCh a (chain A.toList A.toList.length o) := fun z hz => (hch z hz).1
  have hslot : ∀ {ch : List (Nat × Bool)} {t : Nat}, holdsCh a ch → t ∈ (foot A.toList o x.1 x.2).rt → seen A.toList A.toList.length ch t = true → RelV M (x.1.look t) (a.tmps.getD t undef) := by
    intro ch t hc ht hs
    rw [← read_slot G hi hx Y ht]
    exact H.slot t (fun m om hm hmt _ => seen_wnt K hc hs hm hmt)
  have hrt : ∀ y ∈ o.op.operands.toList, ∀ t, y = .tmp t → t ∈ (foot A.toList o x.1 x.2).rt := by
    rintro y hy t rfl
    simp only [foot, List.mem_append, tmpsOf, List.mem_flatMap]
    exact .inl ⟨_, hy, by simp [tmpOf]⟩
  refine ⟨?_, ?_⟩
  · have hs := K.seen o hmemA
    unfold guardOK at hs
    simp only at hs
    split at hs
    · rename_i c u v hop
      simp only [Bool.and_eq_true, List.all_eq_true] at hs
      obtain ⟨hs1, hs2⟩ := hs
      have hops : o.op.operands.toList = [c, u, v] := by rw [hop]; rfl
      unfold OpRel
      rw [hop]
      simp only
      have hc : RelV M (x.1.eval c) (a.eval c) := eval_of (R.tab.keeps H.mem.old) (fun t ht => hslot hholds (hrt c (by rw [hops]; simp) t ht) (hs1 t (by rw [ht]; simp [tmpOf])))
      cases c with
      | tmp s =>
        simp only [Bool.and_eq_true, List.all_eq_true] at hs2
        refine ⟨hc, fun hb => eval_of (R.tab.keeps H.mem.old) (fun t ht => hslot (ch := (s, true) :: chain A.toList A.toList.length o) ?_ (hrt u (by rw [hops]; simp) t ht) (hs2.1 t (by rw [ht]; simp [tmpOf]))),
          fun hb => eval_of (R.tab.keeps H.mem.old) (fun t ht => hslot (ch := (s, false) :: chain A.toList A.toList.length o) ?_ (hrt v (by rw [hops]; simp) t ht) (hs2.2 t (by rw [ht]; simp [tmpOf])))⟩
        · intro z hz
          rcases List.mem_cons.1 hz with rfl | hz
          · exact hb
          · exact hholds z hz
        · intro z hz
          rcases List.mem_cons.1 hz with rfl | hz
          · exact hb
          · exact hholds z hz
      | const _ | global _ | func _ =>
        simp only [Bool.and_eq_true, List.all_eq_true] at hs2
        exact ⟨hc, fun _ => eval_of (R.tab.keeps H.mem.old) (fun t ht => hslot hholds (hrt u (by rw [hops]; simp) t ht) (hs2.1 t (by rw [ht]; simp [tmpOf]))),
          fun _ => eval_of (R.tab.keeps H.mem.old) (fun t ht => hslot hholds (hrt v (by rw [hops]; simp) t ht) (hs2.2 t (by rw [ht]; simp [tmpOf])))⟩
    · rename_i hne
      rw [List.all_eq_true] at hs
      unfold OpRel
      split
      · rename_i c u v hop
        exact absurd hop (hne c u v)
      · intro y hy
        refine eval_of (R.tab.keeps H.mem.old) (fun t ht => hslot hholds (hrt y hy t ht) (hs t ?_))
        simp only [tmpsOf, List.mem_flatMap]
        exact ⟨y, hy, by rw [ht]; simp [tmpOf]⟩
  · unfold St.args
    refine List.map_congr_left (fun y hy => ?_)
    unfold St.arg argOf
    simp only
    cases hbx : boxOf (x.1.eval y) with
    | none => rfl
    | some b =>
      simp only [St.box]
      rw [H.box, read_box G hi hx Y (.inl ?_)]
      simp only [foot, List.mem_filterMap, St.args, List.mem_map]
      exact ⟨_, ⟨y, hy, rfl⟩, hbx⟩
theorem any_dies (TOK : TysOK P C.τ) (GC : CtrsOK P C.Γ) (DK : DsOK P C) (K : GOK A) (G : Reg C A.toList r s0 sE) (hd : ∀ o ∈ A.toList, ∀ k, o.dst = some k → k < a0.tmps.size) {v : Value}
    (hg : ∀ (i : Nat) (o : Oper) (x : St × Eff) (p : Prop × Bool × Value), A[i]? = some o → r[i]? = some x → dieOf C o (x.1.args o) = some p → o.guard = none ∧ p.1 ∧ (p.2.1 = true → p.2.2 = v))
    (hn : ∀ (i : Nat) (o : Oper) (x : St × Eff), A[i]? = some o → r[i]? = some x → (∀ p, dieOf C o (x.1.args o) = some p → p.2.1 = false) → ∀ q, gneed x.1 (chain A.toList A.toList.length o) x.2.need = some q → q)
    (hex : ∃ (i : Nat) (o : Oper) (x : St × Eff) (p : Prop × Bool × Value), A[i]? = some o ∧ r[i]? = some x ∧ dieOf C o (x.1.args o) = some p ∧ p.2.1 = true)
    (hord : orderOK (feet A.toList A.toList r) A.toList (feet A.toList A.toList r) [] 0 = true) {Q : Exit → Act → World → Prop}
    (hQ : ∀ (L : Nat → Bool) a' M' w', At A r s0 R a0 L a' M' → Grows M'.w w' → Q (.panic [{ v := v, recovered := false }]) a' w') : ∀ (fuel : Nat) (listed : Array Bool) (a : Act) (M : Mem), listed.size = A.size →
      At A r s0 R a0 (fun j => listed.getD j false) a M → Closed A r (fun j => listed.getD j false) →
      (∀ (i : Nat) (o : Oper) (x : St × Eff) (p : Prop × Bool × Value), A[i]? = some o → r[i]? = some x → dieOf C o (x.1.args o) = some p → p.2.1 = true → listed.getD i false = false) →
      (List.range A.size).countP (fun j => !listed.getD j false) ≤ fuel → wpAny P .any A Q fuel listed a M.w := by
  have hall : ∀ (listed : Array Bool), listed.size = A.size → Region.ready .any A listed = [] → ∀ j, j < A.size → listed.getD j false = true := by
    intro listed hs hr j
    induction j using Nat.strongRecOn with
    | _ j ih =>
      intro hj
      cases hl : listed.getD j false with
      | true => rfl
      | false =>
        exfalso
        have hi : A[j]? = some A[j] := Array.getElem?_eq_getElem hj
        obtain ⟨x, hx⟩ := G.get hi
        have : j ∈ Region.ready .any A listed := by
          rw [mem_ready]
          refine ⟨?_, A[j], hi, fun e he hb => ?_⟩
          · simp only [Array.getD_eq_getD_getElem?] at hl ⊢
            have hj' : j < listed.size := by omega
            simpa [hj'] using hl
          · have hi' : A.toList[j]? = some A[j] := by rw [Array.getElem?_toList]; exact hi
            have := ((orderOK_spec hord j A[j] _ hi' (feet_get hi' hx)).2.2) e he hb
            rw [Nat.zero_add] at this
            exact ih e.on this (by omega)
        rw [hr] at this
        cases this
  obtain ⟨i0, o0, x0, p0, e1, e2, e3, e4⟩ := hex
  have hlt0 : i0 < A.size := (Array.getElem?_eq_some_iff.1 e1).1
  intro fuel
  induction fuel with
  | zero =>
    intro listed a M hs H Cl hl hc
    exfalso
    have h0 : (List.range A.size).countP (fun j => !listed.getD j false) = 0 := by omega
    rw [List.countP_eq_zero] at h0
    have := h0 i0 (List.mem_range.2 hlt0)
    rw [hl i0 o0 x0 p0 e1 e2 e3 e4] at this
    simp at this
  | succ fuel ih =>
    intro listed a M hs H Cl hl hc
    refine ⟨fun hr => ?_, fun i hir => ?_⟩
    · exfalso
      have := hall listed hs hr i0 hlt0
      rw [hl i0 o0 x0 p0 e1 e2 e3 e4] at this
      cases this
    obtain ⟨h1, o, ho, hedge⟩ := mem_ready.1 hir
    have hlt : i < A.size := (Array.getElem?_eq_some_iff.1 ho).1
    have hlt' : i < listed.size := by omega
    have hself : listed.getD i false = false := by simp [hlt'] at h1 ⊢; exact h1
    obtain ⟨x, hx⟩ := G.get ho
    have Y : May A r (fun j => listed.getD j false) i (foot A.toList o x.1 x.2) := by
      refine ⟨fun j oj y hj hoj hy => ?_, fun j oj y hj hoj hy => ?_, hself⟩
      · have := (orderOK_spec hord i o _ (by simpa using ho) (feet_get (by simpa using ho) hx)).2.1 j _ hj (feet_get (by simpa using hoj) hy)
        rw [Nat.zero_add] at this
        rcases this with ⟨e, he, h2, h3⟩ | h2 | ⟨e, he, h3, h4, q, h5, h6⟩
        · have := hedge e he h3
          rw [h2] at this
          exact .inr this
        · exact .inl h2
        · have hl := hedge e he h3
          have hm : e.on < A.size := by
            by_cases hm : e.on < A.size
            · exact hm
            · rw [Array.getD_eq_getD_getElem?, Array.getElem?_eq_none (by omega)] at hl
              cases hl
          have hom : A[e.on]? = some A[e.on] := Array.getElem?_eq_getElem hm
          obtain ⟨ym, hym⟩ := G.get hom
          rw [feet_get (by rw [Array.getElem?_toList]; exact hom) hym] at h5
          cases h5
          rcases Cl e.on A[e.on] ym hom hym hl j oj y h4 hoj hy with h7 | h7
          · rw [h7] at h6; cases h6
          · exact .inr h7
      · cases hl : listed.getD j false with
        | false => exact .inr rfl
        | true =>
          rcases Cl j oj y hoj hy hl i o x hj ho hx with h2 | h2
          · exact .inl h2
          · exfalso
            simp only at h2
            rw [hself] at h2
            cases h2
    have live : (∀ p, dieOf C o (x.1.args o) = some p → p.2.1 = false) → wpOp P A Q i (wpAny P .any A Q fuel (listed.setIfInBounds i true)) a M.w := by
      intro hlive
      have hadd : (fun j => (listed.setIfInBounds i true).getD j false) = addL (fun j => listed.getD j false) i := by
        funext j
        unfold addL
        cases hb : Nat.beq j i with
        | true =>
          have := Nat.eq_of_beq_eq_true hb
          subst this
          simp [hlt']
        | false =>
          have : i ≠ j := fun h => by rw [h] at hb; simp at hb
          simp [Array.getElem?_setIfInBounds_ne this]
      refine H.step TOK GC K G Cl ho hx Y (fun d hdd => by rw [H.size]; exact hd _ (Array.mem_toList_iff.2 (Array.mem_of_getElem? ho)) d hdd) (hn i o x ho hx hlive) (fun a' M' H' => ?_)
      refine ih _ a' M' (by simpa using hs) (by rw [hadd]; exact H') (by rw [hadd]; exact Cl.add G ho hx Y) (fun j oj y p q1 q2 q3 q4 => ?_) ?_
      · have hij : j ≠ i := fun h => by
          subst h
          rw [Option.some.inj (q1.symm.trans ho), Option.some.inj (q2.symm.trans hx)] at q3
          rw [hlive p q3] at q4
          cases q4
        have this : (listed.setIfInBounds i true).getD j false = addL (fun j => listed.getD j false) i j := congrFun hadd j
        rw [this, addL_ne _ hij]
        exact hl j oj y p q1 q2 q3 q4
      · have : (List.range A.size).countP (fun j => !(listed.setIfInBounds i true).getD j false) < (List.range A.size).countP (fun j => !listed.getD j false) := by
          refine countP_lt (fun j _ hj => ?_) ⟨i, List.mem_range.2 hlt, by simp [hself], by simp [hlt']⟩
          have hh := congrFun hadd j
          rw [hh] at hj
          unfold addL at hj
          simp only [Bool.not_or, Bool.and_eq_true] at hj
          exact hj.1
        omega
    cases hdie : dieOf C o (x.1.args o) with
    | none => exact live (fun p hp => by rw [hdie] at hp; cases hp)
    | some p =>
      obtain ⟨hgn, hpre, hv⟩ := hg i o x p ho hx hdie
      cases hp : p.2.1 with
      | false => exact live (fun q hq => by rw [hdie] at hq; cases hq; exact hp)
      | true =>
        have hw : wnt A o a = true := wnt_none hgn
        obtain ⟨hrel, hargs⟩ := H.rel K G Cl ho hx Y hw
        unfold wpOp
        rw [ho]
        simp only
        rw [if_pos (by simpa [wnt] using hw)]
        refine .inl ?_
        rw [hargs] at hdie
        refine die_wp DK H.mem hrel hdie hpre hp fun w' g => ?_
        rw [hv hp]
        exact hQ _ a M w' H g
theorem runDrawD_wp (TOK : TysOK P C.τ) (GC : CtrsOK P C.Γ) (DK : DsOK P C) (hmix : P.follows .mixedOrders = true) {id : Nat} {ops : Array Oper} {s : St} {w : World} {F : Ex × St → Prop} (hs : IsSt R s a w) (hF : (runDrawD C ops.toList s).holds F)
    (hd : ∀ o ∈ ops.toList, ∀ k, o.dst = some k → k < a.tmps.size) {Q : Exit → Act → World → Prop}
    (hQ : ∀ z s' a' w', F (z, s') → IsSt R s' a' w' → Apart (fun t => ∃ o ∈ ops.toList, o.dst = some t) s a s' a' → Q z.to a' w') : (Code.region id ops true).wp P Q a w := by
  unfold runDrawD at hF
  split at hF
  · exact hF.elim
  rename_i hg
  split at hF
  · exact hF.elim
  rename_i r sE he
  split at hF
  · exact hF.elim
  rename_i hok
  simp only [Bool.and_eq_true] at hok
  obtain ⟨⟨hok, hord⟩, hdo⟩ := hok
  obtain ⟨hn, hF⟩ := effsNeedD_holds hF
  have hF := dieT_holds hF
  have K := GOK.of hg
  have G := Reg.of he hok
  have hz : ∀ j, (Array.replicate ops.size false).getD j false = false := by
    intro j
    simp only [Array.getD_eq_getD_getElem?, Array.getElem?_replicate]
    split <;> rfl
  have hcl : Closed ops r (fun j => (Array.replicate ops.size false).getD j false) := by
    intro i o x _ _ hL
    have hL' : (Array.replicate ops.size false).getD i false = true := hL
    rw [hz] at hL'
    cases hL'
  have hn' : ∀ (i : Nat) (o : Oper) (x : St × Eff), ops[i]? = some o → r[i]? = some x → (∀ p, dieOf C o (x.1.args o) = some p → p.2.1 = false) → ∀ q, gneed x.1 (chain ops.toList ops.toList.length o) x.2.need = some q → q := by
    intro i o x hi hx hlive q hq
    have hi' : ops.toList[i]? = some o := by simpa using hi
    cases hdie : dieOf C o (x.1.args o) with
    | none => exact (hn i o x hi' hx).2 hdie q hq
    | some p' =>
      have hok' := dieOf_need DK hdie (G.eff i o x hi' hx) ((hn i o x hi' hx).1 p' hdie) (hlive p' hdie)
      unfold gneed at hq
      cases hnd : x.2.need with
      | none => rw [hnd] at hq; cases hq
      | some q' =>
        rw [hnd] at hq
        have h1 := hok' q' hnd
        simp only at hq
        split at hq
        · simp only [Option.some.injEq] at hq; rw [← hq]; exact h1
        · simp only [Option.some.injEq] at hq; rw [← hq]; exact fun _ => h1
  obtain ⟨M, rfl, hb, I, hr⟩ := hs
  obtain ⟨I2, st⟩ := I.grow (Grows.drew M.w)
  refine wp_region_any hmix ?_
  rw [drew_eq]
  have hstart : At ops r s R a (fun j => (Array.replicate ops.size false).getD j false) a { M with w := M.w.drew } := At.start (w := M.w) K hz hb I2 (fun t => (hr t).steps st)
  have hcount : (List.range ops.size).countP (fun j => !(Array.replicate ops.size false).getD j false) ≤ ops.size := Nat.le_trans List.countP_le_length (by simp)
  rcases hF with ⟨hlive, hF⟩ | ⟨p1, hp1, hp1t, hF', hvals⟩
  · refine any_wp TOK GC K G hd (fun i o x hi hx => hn' i o x (by simpa using hi) hx (fun q hq => hlive q.2 (dieL_mem hi hx hq))) hord (fun L a' M' hL H => ?_) ops.size (Array.replicate ops.size false) a { M with w := M.w.drew } (by simp) hstart hcl hcount
    obtain ⟨h1, h2⟩ := H.done K G hL
    exact hQ .normal _ a' M'.w hF h1 h2
  · obtain ⟨i, o, x, qq, e1, e2, e3⟩ := dieL_of hp1
    refine any_dies TOK GC DK K G hd (v := p1.2) (fun i o x q hi hx hq => ⟨dieOK_spec hdo (i := i) (by simpa using hi) hx hq, (hn i o x (by simpa using hi) hx).1 q hq, hvals q.2 (dieL_mem (i := i) (by simpa using hi) hx hq)⟩) hn' ⟨i, o, x, (qq, p1), by simpa using e1, e2, e3, hp1t⟩ hord
      (fun L a' M' w' H g => ?_) ops.size (Array.replicate ops.size false) a { M with w := M.w.drew } (by simp) hstart hcl (fun _ _ _ _ _ _ _ _ => hz _) hcount
    have h0 : IsSt R { tmps := [], boxes := [] } a' M'.w := ⟨{ M' with bs := [] }, rfl, rfl, H.mem.weak (fun b d Z hb => by simp [lk] at hb), fun t => by simp [St.look, lk, RelV]⟩
    refine hQ (.die p1.2) { tmps := [], boxes := [] } a' w' hF' (h0.grown g) ⟨H.size, H.defers, fun t ht => H.out t (fun o ho hd => ht ⟨o, ho, hd⟩), fun t _ => .inl rfl, fun b B hB => by simp [lk] at hB⟩
end
end Go.Ev
/- Code does what the evaluator says. -/
set_option linter.unusedVariables false
set_option linter.unusedSimpArgs false
namespace Go.Ev
def LamOK (C : Ctx) : Code → Prop
  | .seq a b => LamOK C a ∧ LamOK C b
  | .cond _ a b => LamOK C a ∧ LamOK C b
  | .loop c => LamOK C c
  | .scope c => LamOK C c
  | .block id c => LamOK C c ∧ ∀ body, c = .loop body → ∀ L, C.Λ id = some L → ∀ (s : St) (F : Ex × St → Prop), (L.sum s).holds F → ∃ n, (iter L (ev C body) n s).holds F
  | _ => True

section
variable {P : Program} {C : Ctx}

theorem mem_dsts {ops : List Oper} {t : Nat} : t ∈ dsts ops ↔ ∃ o ∈ ops, o.dst = some t := by
  unfold dsts
  rw [List.mem_filterMap]

theorem region_ok (TOK : TysOK P C.τ) (GC : CtrsOK P C.Γ) (DK : DsOK P C) (hmix : P.follows .mixedOrders = true) (id : Nat) (ops : Array Oper) (draw : Bool) : BodyOK P C (.region id ops draw) := by
  intro R s a w F hs hsz hF
  have hd : ∀ o ∈ ops.toList, ∀ k, o.dst = some k → k < a.tmps.size := fun o ho k hk => hsz k (mem_dsts.2 ⟨o, ho, hk⟩)
  simp only [ev] at hF
  split at hF
  · cases draw with
    | true => exact runDrawD_wp TOK GC DK hmix hs hF hd (fun z s' a' w' f1 f2 f3 => ⟨z, s', rfl, f1, f2, f3.mono (fun t ht => mem_dsts.2 ht)⟩)
    | false =>
      simp only [regD] at hF
      split at hF
      · exact hF.elim
      rename_i hg
      rw [List.any_eq_false] at hg
      refine wp_region ?_
      rw [List.range_eq_range', show ops.size = ops.toList.length by simp]
      refine runOpsD_wp TOK GC DK ops.toList 0 s a w _ (fun i o hi => by rw [Nat.zero_add, ← Array.getElem?_toList]; exact hi) (fun o ho => ⟨?_, hd o ho⟩) hs hF (fun z s' a' w' f1 f2 f3 => ⟨z, s', rfl, f1, f2, f3.mono (fun t ht => mem_dsts.2 ht)⟩)
      have := hg o ho
      cases hgo : o.guard with
      | none => rfl
      | some x => simp [hgo] at this
  split at hF
  · rename_i hg
    simp only [Bool.or_eq_false_iff, List.any_eq_false] at hg
    obtain ⟨rfl, hg⟩ := hg
    have hF' := holds_bind.1 hF
    refine wp_region ?_
    rw [List.range_eq_range', show ops.size = ops.toList.length by simp]
    refine runOps_wp TOK GC ops.toList 0 s a w _ (fun i o hi => by rw [Nat.zero_add, ← Array.getElem?_toList]; exact hi) (fun o ho => ⟨?_, hd o ho⟩) hs hF' (fun s' a' w' f1 f2 f3 => ⟨.normal, s', rfl, f1, f2, f3.mono (fun t ht => mem_dsts.2 ht)⟩)
    have := hg o ho
    cases hgo : o.guard with
    | none => rfl
    | some x => simp [hgo] at this
  · have hF' := holds_bind.1 hF
    cases draw with
    | true => exact runDraw_wp TOK GC hmix hs hF' hd (fun s' a' w' f1 f2 f3 => ⟨.normal, s', rfl, f1, f2, f3.mono (fun t ht => mem_dsts.2 ht)⟩)
    | false =>
      simp only at hF'
      have other : (runBr C ops.toList ops.toList s).holds (fun s' => (Tree.leaf (Ex.normal, s')).holds F) → (Code.region id ops false).wp P (fun e a' w' => ∃ z s', e = Ex.to z ∧ F (z, s') ∧ IsSt R s' a' w' ∧ Apart (fun t => t ∈ writes (Code.region id ops false)) s a s' a') a w := fun h => by
        refine wp_region ?_
        rw [List.range_eq_range', show ops.size = ops.toList.length by simp]
        exact runBr_wp TOK GC ops.toList 0 s a w _ (fun i o hi => by rw [Nat.zero_add, ← Array.getElem?_toList]; exact hi) hd hs h (fun s' a' w' f1 f2 f3 => ⟨.normal, s', rfl, f1, f2, f3.mono (fun t ht => mem_dsts.2 ht)⟩)
      cases hr : runDraw C ops.toList false s with
      | stuck => rw [hr] at hF'; exact other hF'
      | leaf _ => exact runDraw_wp TOK GC hmix hs (by rw [hr] at hF' ⊢; exact hF') hd (fun s' a' w' f1 f2 f3 => ⟨.normal, s', rfl, f1, f2, f3.mono (fun t ht => mem_dsts.2 ht)⟩)
      | br _ _ _ => exact runDraw_wp TOK GC hmix hs (by rw [hr] at hF' ⊢; exact hF') hd (fun s' a' w' f1 f2 f3 => ⟨.normal, s', rfl, f1, f2, f3.mono (fun t ht => mem_dsts.2 ht)⟩)
      | need _ _ => exact runDraw_wp TOK GC hmix hs (by rw [hr] at hF' ⊢; exact hF') hd (fun s' a' w' f1 f2 f3 => ⟨.normal, s', rfl, f1, f2, f3.mono (fun t ht => mem_dsts.2 ht)⟩)

theorem seq_ok {x y : Code} (hx : BodyOK P C x) (hy : BodyOK P C y) : BodyOK P C (.seq x y) := by
  intro R s a w F hs hsz hF
  simp only [ev] at hF
  have hF' := holds_bind.1 hF
  simp only [writes, List.mem_append] at hsz ⊢
  refine wp_seq (wp_mono (hx R s a w _ hs (fun t ht => hsz t (.inl ht)) hF') ?_)
  rintro e a1 w1 ⟨z, s1, rfl, h1, h2, h3⟩
  have h3' := h3.mono (W' := fun t => t ∈ writes x ∨ t ∈ writes y) (fun t ht => .inl ht)
  cases z with
  | normal =>
    refine wp_mono (hy R s1 a1 w1 _ h2 (fun t ht => by rw [h3.size]; exact hsz t (.inr ht)) h1) ?_
    rintro e a2 w2 ⟨z, s2, rfl, k1, k2, k3⟩
    exact ⟨z, s2, rfl, k1, k2, h3'.trans (k3.mono (fun t ht => .inr ht))⟩
  | exit id => exact ⟨.exit id, s1, rfl, h1, h2, h3'⟩
  | ret => exact ⟨.ret, s1, rfl, h1, h2, h3'⟩
  | die v => exact ⟨.die v, s1, rfl, h1, h2, h3'⟩

theorem cond_ok {c : Operand} {x y : Code} (hx : BodyOK P C x) (hy : BodyOK P C y) : BodyOK P C (.cond c x y) := by
  intro R s a w F hs hsz hF
  simp only [ev] at hF
  split at hF
  · rename_i b hc
    have hev : a.eval c = .bool b := by
      obtain ⟨M, _, _, I, hr⟩ := hs
      have := eval_rel (R.tab.keeps I.old) hr c
      rw [hc] at this
      exact relBool this
    have hF' := holds_bind.1 hF
    simp only [Tree.holds] at hF'
    have fin : ∀ {W : Nat → Prop} {z : Ex} {s' : St} {a' : Act} {w' : World}, F (z, s'.remark s) → IsSt R s' a' w' → Apart W s.clean a s' a' → (∀ t, W t → t ∈ writes (.cond c x y)) →
        ∃ z' s'', z.to = Ex.to z' ∧ F (z', s'') ∧ IsSt R s'' a' w' ∧ Apart (fun t => t ∈ writes (.cond c x y)) s a s'' a' :=
      fun h1 h2 h3 h4 => ⟨_, _, rfl, h1, h2.remark s, h3.remark.mono h4⟩
    have go : ∀ (z : Code), BodyOK P C z → (∀ t ∈ writes z, t ∈ writes (.cond c x y)) → (ev C z s.clean).holds (fun p => F (p.1, p.2.remark s)) →
        z.wp P (fun e a' w' => ∃ z' s'', e = Ex.to z' ∧ F (z', s'') ∧ IsSt R s'' a' w' ∧ Apart (fun t => t ∈ writes (.cond c x y)) s a s'' a') a w := by
      intro z hz hw h
      refine wp_mono (hz R s.clean a w _ hs.clean (fun t ht => hsz t (hw t ht)) h) ?_
      rintro e a1 w1 ⟨z', s1, rfl, h1, h2, h3⟩
      exact fin h1 h2 h3 hw
    have wx : ∀ t ∈ writes x, t ∈ writes (.cond c x y) := fun t ht => by simp only [writes, List.mem_append]; exact .inl ht
    have wy : ∀ t ∈ writes y, t ∈ writes (.cond c x y) := fun t ht => by simp only [writes, List.mem_append]; exact .inr ht
    have plain : (b = true → (ev C x s.clean).holds (fun p => F (p.1, p.2.remark s))) → (b = false → (ev C y s.clean).holds (fun p => F (p.1, p.2.remark s))) →
        (Code.cond c x y).wp P (fun e a' w' => ∃ z' s'', e = Ex.to z' ∧ F (z', s'') ∧ IsSt R s'' a' w' ∧ Apart (fun t => t ∈ writes (.cond c x y)) s a s'' a') a w := by
      intro h1 h2
      refine wp_cond hev ?_
      cases b with
      | true => exact go x hx wx (h1 rfl)
      | false => exact go y hy wy (h2 rfl)
    cases hdec : C.dec with
    | true =>
      rw [hdec] at hF'
      obtain ⟨k1, k2⟩ := holds_pickT hF'
      exact plain k1 k2
    | false =>
      rw [hdec] at hF'
      simp only at hF'
      unfold fork at hF'
      split at hF'
      · rename_i ps sa qs sb e1 e2
        split at hF'
        · rename_i m hm
          obtain ⟨k1, k2⟩ := needs_holds hF'
          obtain ⟨k3, k4⟩ := needs_holds k2
          have mg : ∀ {a' w'} , IsSt R (if b then sa else sb) a' w' → Apart (fun t => t ∈ dedupN (writes x ++ writes y)) s.clean a (if b then sa else sb) a' →
              ∃ z' s'', Exit.normal = Ex.to z' ∧ F (z', s'') ∧ IsSt R s'' a' w' ∧ Apart (fun t => t ∈ writes (.cond c x y)) s a s'' a' := by
            intro a' w' h1 h2
            obtain ⟨h3, h4⟩ := merge_sound hm h1 h2
            exact fin (z := .normal) k4 h3 h4 (fun t ht => by simpa only [writes] using mem_dedup.1 ht)
          refine wp_cond hev ?_
          cases b with
          | true =>
            refine wp_mono (hx R s.clean a w _ hs.clean (fun t ht => hsz t (wx t ht)) (single_holds e1 (k1 rfl))) ?_
            rintro e a1 w1 ⟨z', s1, rfl, h1, h2, h3⟩
            simp only [Prod.mk.injEq] at h1
            obtain ⟨rfl, rfl⟩ := h1
            exact mg h2 (h3.mono (fun t ht => mem_dedup.2 (List.mem_append.2 (.inl ht))))
          | false =>
            refine wp_mono (hy R s.clean a w _ hs.clean (fun t ht => hsz t (wy t ht)) (single_holds e2 (k3 rfl))) ?_
            rintro e a1 w1 ⟨z', s1, rfl, h1, h2, h3⟩
            simp only [Prod.mk.injEq] at h1
            obtain ⟨rfl, rfl⟩ := h1
            exact mg h2 (h3.mono (fun t ht => mem_dedup.2 (List.mem_append.2 (.inr ht))))
        · exact plain hF'.1 hF'.2
      · exact plain hF'.1 hF'.2
  · exact hF.elim

theorem leaves_block {Q : Ex → Act → World → Prop} {id : Nat} {x : Ex} {a : Act} {w : World} {Q' : Exit → Act → World → Prop} (h : Q' (leaves id x).to a w) : Exit.inBlock id Q' x.to a w := by
  cases x with
  | normal => exact h
  | ret => exact h
  | die v => exact h
  | exit j =>
    simp only [leaves] at h
    simp only [Ex.to, Exit.inBlock]
    split at h
    · rename_i hb
      rw [if_pos (Nat.eq_of_beq_eq_true hb)]
      exact h
    · rename_i hb
      rw [if_neg (fun hh => by rw [hh] at hb; simp at hb)]
      exact h

theorem block_ok {id : Nat} {c : Code} (hc : BodyOK P C c) (he : ∀ s, ev C (.block id c) s = (ev C c s).bind fun x => .leaf (leaves id x.1, x.2)) : BodyOK P C (.block id c) := by
  intro R s a w F hs hsz hF
  rw [he] at hF
  have hF' := holds_bind.1 hF
  refine wp_block (wp_mono (hc R s a w _ hs hsz hF') ?_)
  rintro e a1 w1 ⟨z, s1, rfl, h1, h2, h3⟩
  refine leaves_block (Q := fun _ _ _ => True) ?_
  exact ⟨_, s1, rfl, h1, h2, h3⟩

theorem loop_ok {id : Nat} {body : Code} (hB : BodyOK P C body) (hL : ∀ L, C.Λ id = some L → ∀ (s : St) (F : Ex × St → Prop), (L.sum s).holds F → ∃ n, (iter L (ev C body) n s).holds F) : BodyOK P C (.block id (.loop body)) := by
  intro R s a w F hs hsz hF
  simp only [ev] at hF
  split at hF
  · exact hF.elim
  rename_i L hLam
  split at hF
  · exact hF.elim
  rename_i s0 hp
  split at hF
  · exact hF.elim
  · exact hF.elim
  rename_i s1 hr hall
  have hF' := holds_bind.1 hF
  obtain ⟨n, hn⟩ := hL L hLam s1 _ hF'
  obtain ⟨hs0, hlk, hbx⟩ := promote_sound hp hs
  have hprom : ∀ t, ¬ t ∈ writes body → s0.look t = s.look t := by
    intro t ht
    refine hlk t (fun p hp' heq => ht ?_)
    rw [List.all_eq_true] at hall
    exact heq ▸ memN_iff.1 (hall p hp')
  have H1 := restrict_spec hr
  obtain ⟨M, rfl, hb, I, hrel⟩ := hs0
  refine wp_block (loop_wp (L := L) (R := subRef M L (R.tab.keeps I.old)) hB (enter I hb hrel H1) hsz hn ?_)
  intro x sx s2 a' w' hx h1 h2 H hf
  refine leaves_block (Q := fun _ _ _ => True) ?_
  obtain ⟨q1, q2⟩ := leave I hb hrel H1 h2 H hf
  refine ⟨_, _, rfl, h1, q1, q2.size, q2.defers, q2.tmps, fun t ht => ?_, fun b B hB => hbx b B (q2.boxes b B hB)⟩
  rcases q2.look t ht with h | h
  · exact .inl h
  · exact .inr (h.trans (hprom t ht))
theorem ev_ok (TOK : TysOK P C.τ) (GC : CtrsOK P C.Γ) (DK : DsOK P C) (hmix : P.follows .mixedOrders = true) (c : Code) : LamOK C c → BodyOK P C c ∧ ∀ body, c = .loop body → BodyOK P C body := by
  have stuck : ∀ c : Code, (∀ s, ev C c s = .stuck) → BodyOK P C c := fun c h R s a w F _ _ hF => by rw [h] at hF; exact hF.elim
  induction c with
  | skip => exact fun _ => ⟨fun R s a w F hs _ hF => wp_skip ⟨.normal, s, rfl, hF, hs, Apart.refl _ _ _⟩, nofun⟩
  | region id ops draw => exact fun _ => ⟨region_ok TOK GC DK hmix id ops draw, nofun⟩
  | seq x y hx hy => exact fun h => ⟨seq_ok (hx h.1).1 (hy h.2).1, nofun⟩
  | cond c x y hx hy => exact fun h => ⟨cond_ok (hx h.1).1 (hy h.2).1, nofun⟩
  | block id c hc =>
    refine fun h => ⟨?_, nofun⟩
    cases c with
    | loop body => exact loop_ok ((hc h.1).2 body rfl) (h.2 body rfl)
    | _ => exact block_ok (hc h.1).1 (fun s => rfl)
  | loop body hb => exact fun h => ⟨stuck _ (fun s => rfl), fun b hh => by cases hh; exact (hb h).1⟩
  | exit id => exact fun _ => ⟨fun R s a w F hs _ hF => wp_exit ⟨.exit id, s, rfl, hF, hs, Apart.refl _ _ _⟩, nofun⟩
  | ret => exact fun _ => ⟨fun R s a w F hs _ hF => wp_ret ⟨.ret, s, rfl, hF, hs, Apart.refl _ _ _⟩, nofun⟩
  | rangeFunc f ps x y hx hy => exact fun _ => ⟨stuck _ (fun s => rfl), nofun⟩
  | scope c hc =>
    refine fun h => ⟨fun R s a w F hs hsz hF => wp_scope_straight (wp_mono ((hc h).1 R s a w F hs hsz hF) ?_), nofun⟩
    rintro e a1 w1 ⟨z, s1, rfl, h1, h2, h3⟩
    cases z <;> exact ⟨_, s1, rfl, h1, h2, h3⟩
  | label l => exact fun _ => ⟨fun R s a w F hs _ hF => wp_label ⟨.normal, s, rfl, hF, hs, Apart.refl _ _ _⟩, nofun⟩
  | goto l => exact fun _ => ⟨stuck _ (fun s => rfl), nofun⟩
  | refuse w => exact fun _ => ⟨stuck _ (fun s => rfl), nofun⟩
end
end Go.Ev
/- A function keeps the contract that the evaluator reckons. -/
set_option linter.unusedVariables false
set_option linter.unusedSimpArgs false
namespace Go.Ev
section
variable {P : Program} {C : Ctx}

theorem lk_number {α : Type} (t : Nat) : ∀ (l : List α) (n : Nat), lk t (number n l) = if n ≤ t then l[t - n]? else none
  | [], n => by simp [number, lk]
  | v :: l, n => by
    simp only [number, lk]
    cases hb : Nat.beq n t with
    | true =>
      have := Nat.eq_of_beq_eq_true hb
      subst this
      simp
    | false =>
      have hne : n ≠ t := fun h => by rw [h] at hb; simp at hb
      rw [lk_number t l (n + 1)]
      by_cases h : n ≤ t
      · rw [if_pos (by omega), if_pos h, show t - n = (t - (n + 1)) + 1 by omega]
        simp
      · rw [if_neg (by omega), if_neg h]

theorem loadAddr {M : Mem} {R : Ref} {τ : Tys} (TOK : TysOK P τ) (I : InvM R M) {t : TypeId} {i : TInfo} (hi : τ t = some i) {va : AV} {u : Value} (hr : RelV M va u) {e : Eff} (h : loadEff i.g (argOf M.bs va) = some e) :
    ∃ v, (do loadVar t (← asAddr u) : Sem Value).run P M.w = .ok v M.w ∧ RelV M e.av v ∧ ∃ y, e.av = .val i.g y := by
  obtain ⟨v, h1, h2, h3, h4⟩ := loadEff_sound TOK I hi (ArgR.of hr) h
  refine ⟨v, ?_, h3, h4⟩
  have hu : ∃ blk off, u = .pointer (some ⟨blk, off, none⟩) := by
    unfold loadEff argOf at h
    cases va with
    | ptr b g p =>
      simp only [RelV] at hr
      obtain ⟨blk, d, B, _, _, _, hu⟩ := hr
      exact ⟨_, _, hu⟩
    | ref g y =>
      simp only [RelV] at hr
      obtain ⟨blk, off, cs, _, _, hu⟩ := hr
      exact ⟨_, _, hu⟩
    | undef => simp at h
    | cst _ => simp at h
    | val _ _ => simp at h
    | tip _ => simp at h
    | tup _ => simp at h
    | clo _ _ => simp at h
    | nxt _ _ _ => simp at h
    | win _ _ => simp at h
  obtain ⟨blk, off, rfl⟩ := hu
  simpa [Instr.loadAt, Instr.sureAddr, asAddr] using h1

def resF (tmps : Array Value) : ResultVar → Sem Value
  | .tmp t => pure (tmps.getD t undef)
  | .cell a t => do loadVar t (← asAddr (tmps.getD a undef))

theorem results_eq (fn : Func) (tmps : Array Value) : results fn tmps = (do let vs ← fn.results.mapM (resF tmps); pure (if h : vs.size = 1 then vs[0] else .tuple vs)) := rfl

theorem resArgs_sound {M : Mem} {R : Ref} (TOK : TysOK P C.τ) (I : InvM R M) {s : St} (hb : M.bs = s.boxes) {tmps : Array Value} (hr : ∀ t, RelV M (s.look t) (tmps.getD t undef)) : ∀ {l : List ResultVar} {aas : List Arg}, resArgs C s l = some aas →
    ∃ us, (l.mapM (resF tmps)).run P M.w = .ok us M.w ∧ ArgsR M aas us
  | [], aas, h => by
    simp only [resArgs, Option.some.injEq] at h
    subst h
    exact ⟨[], by simp, trivial⟩
  | r :: l, aas, h => by
    simp only [resArgs] at h
    split at h
    · rename_i a aas' h1 h2
      simp only [Option.some.injEq] at h
      subst h
      obtain ⟨us, q1, q2⟩ := resArgs_sound TOK I hb hr h2
      have one : ∃ u, (resF tmps r).run P M.w = .ok u M.w ∧ ArgR M a u := by
        cases r with
        | tmp t =>
          simp only [resArg, Option.some.injEq] at h1
          subst h1
          refine ⟨tmps.getD t undef, rfl, ?_⟩
          have : s.arg (.tmp t) = argOf M.bs (s.look t) := by rw [hb]; rfl
          rw [this]
          exact ArgR.of (hr t)
        | cell ad t =>
          simp only [resArg] at h1
          split at h1
          · rename_i i hi
            split at h1
            · rename_i e he
              simp only [Option.some.injEq] at h1
              subst h1
              have : s.arg (.tmp ad) = argOf M.bs (s.look ad) := by rw [hb]; rfl
              rw [this] at he
              obtain ⟨v, k1, k2, y, k3⟩ := loadAddr TOK I hi (hr ad) he
              exact ⟨v, k1, k2, fun b B hb' _ => by rw [k3] at hb'; simp [boxOf] at hb'⟩
            · cases h1
          · cases h1
      obtain ⟨u, k1, k2⟩ := one
      exact ⟨u :: us, by rw [List.mapM_cons]; simp only [Sem.run_bind, k1, Result.andThen_ok, q1]; rfl, k2, q2⟩
    · cases h

theorem results_run {fn : Func} {tmps : Array Value} {w : World} {us : List Value} (h : (fn.results.toList.mapM (resF tmps)).run P w = .ok us w) :
    (results fn tmps).run P w = .ok (match us with | [u] => u | _ => .tuple us.toArray) w := by
  rw [results_eq, Array.mapM_eq_mapM_toList]
  have : (List.toArray <$> fn.results.toList.mapM (resF tmps) : Sem (Array Value)).run P w = .ok us.toArray w := by
    simp [h]
  simp only [Sem.run_bind]
  rw [this]
  simp only [Result.andThen_ok]
  rcases us with _ | ⟨u, _ | ⟨v, us⟩⟩ <;> simp
theorem ctr_of_ev (TOK : TysOK P C.τ) (GC : CtrsOK P C.Γ) (DK : DsOK P C) (hmix : P.follows .mixedOrders = true) {f : Nat} {fn : Func} {body : Code} {c : Ctr} (hf : P.funcs[f]? = some fn) (hname : (fn.name == "runtime.NumGoroutine") = false) (hbody : fn.body = some body)
    (hlam : LamOK C body) (h : ∀ x : dens c.args, wtD c.args x → (∀ p, c.pre = some p → p x) → (evFn C fn (resL c.args x) c.res).holds (fun y => y = c.fn x)) : CtrOK P f c := by
  refine ⟨⟨fn, hf, by rw [hbody]; rfl, hname⟩, fun w S us x hS hT henc hpre => ?_⟩
  have hh := h x henc.wt hpre
  simp only [evFn, hbody] at hh
  split at hh
  · exact hh.elim
  rename_i hsz
  have hh' := holds_bind.1 hh
  let R : Ref := ⟨w, fun _ => False, S, hT⟩
  let M : Mem := ⟨w, S, fun _ => undef, []⟩
  have I : InvM R M := ⟨rfl, rfl, rfl, Nat.le_refl _, fun _ _ _ => rfl, Keeps.refl _ _, fun b o hs => ⟨.inl hs, hS b o hs⟩, fun b d B hb => by simp [M, lk] at hb, fun b c d B d' B' _ hb => by simp [M, lk] at hb⟩
  have hrl := resL_rel (M := M) (gs := c.args) (x := x) (us := us) henc
  let a : Act := { tmps := us.toArray ++ Array.replicate (fn.ntmps - us.toArray.size) undef, defers := [] }
  have hst : IsSt R { tmps := number 0 (resL c.args x), boxes := [] } a w := by
    refine ⟨M, rfl, rfl, I, fun t => ?_⟩
    show RelV M ((lk t (number 0 (resL c.args x))).getD .undef) _
    rw [lk_number]
    simp only [Nat.zero_le, if_true, Nat.sub_zero]
    cases hv : (resL c.args x)[t]? with
    | none => simp [RelV]
    | some v =>
      obtain ⟨u, h1, h2⟩ := hrl.get t hv
      have hlt := (List.getElem?_eq_some_iff.1 h1).1
      have : a.tmps.getD t undef = u := by
        simp only [a, Array.getD_eq_getD_getElem?]
        rw [Array.getElem?_append_left (by simpa using hlt)]
        simp [h1]
      rw [this]
      simpa using h2
  have hall : ∀ t ∈ writes body, t < a.tmps.size := by
    intro t ht
    rw [List.all_eq_true] at hsz
    have := hsz t ht
    rw [Nat.blt_eq] at this
    simp [a]
    omega
  refine calls_of_wp hf hbody (wp_mono ((ev_ok TOK GC DK hmix body hlam).1 R _ a w _ hst hall hh') ?_)
  rintro e a' w' ⟨z, s', rfl, h1, ⟨M', rfl, hb', I', hr'⟩, hap⟩
  have fin : (evRes C fn c.res (.normal, s')).holds (fun y => y = c.fn x) →
      a'.defers = [] ∧ ∃ v, (results fn a'.tmps).run P M'.w = .ok v M'.w ∧ ∃ v', Ending.returned v = Ending.returned v' ∧ Grows w M'.w ∧ ∃ N : Stab, (∀ b o, N b o → w.heap.size ≤ b ∧ b < M'.w.heap.size) ∧ RelRes M'.w (fun b o => S b o ∨ N b o) c.res (c.fn x) v' := by
    intro hF
    simp only [evRes] at hF
    split at hF
    · exact hF.elim
    rename_i aas has
    split at hF
    · exact hF.elim
    rename_i y ws htk
    simp only [Tree.holds] at hF
    subst hF
    obtain ⟨us', q1, q2⟩ := resArgs_sound TOK I' hb' hr' has
    obtain ⟨_, S', fz, henc'⟩ := takes_sound I' q2 htk
    refine ⟨hap.defers, _, results_run q1, _, rfl, ⟨I'.os, I'.tape, I'.output, I'.size, fun k hk => I'.frame k hk id⟩, fun b o => S' b o ∧ w.heap.size ≤ b, fun b o hN => ⟨hN.2, (fz.inv.here b o hN.1).2⟩, us', ?_, by rcases us' with _ | ⟨u, _ | ⟨v, us⟩⟩ <;> rfl⟩
    refine henc'.keeps (fun b o hs => ⟨?_, rfl⟩)
    rcases (fz.inv.here b o hs).1 with h3 | h3 | h3
    · exact .inl h3
    · exact .inr ⟨hs, h3⟩
    · exact h3.elim
  cases z with
  | exit id => exact h1.elim
  | die v => exact h1.elim
  | normal => exact fin h1
  | ret => exact fin h1
theorem dctr_of_ev (TOK : TysOK P C.τ) (GC : CtrsOK P C.Γ) (DK : DsOK P C) (hmix : P.follows .mixedOrders = true) {f : Nat} {fn : Func} {body : Code} {d : DCtr} (hf : P.funcs[f]? = some fn) (hname : (fn.name == "runtime.NumGoroutine") = false) (hbody : fn.body = some body)
    (hlam : LamOK C body) (h : ∀ x : dens d.args, wtD d.args x → d.pre x → (evFnD C fn (resL d.args x) d.res).holds (fun y => y = bif d.die x then .inl (d.val x) else .inr (d.fn x))) : DCtrOK P f d := by
  refine ⟨⟨fn, hf, by rw [hbody]; rfl, hname⟩, fun w S us x hS hT henc hpre => ?_⟩
  have hh := h x henc.wt hpre
  simp only [evFnD, hbody] at hh
  split at hh
  · exact hh.elim
  rename_i hsz
  have hh' := holds_bind.1 hh
  let R : Ref := ⟨w, fun _ => False, S, hT⟩
  let M : Mem := ⟨w, S, fun _ => undef, []⟩
  have I : InvM R M := ⟨rfl, rfl, rfl, Nat.le_refl _, fun _ _ _ => rfl, Keeps.refl _ _, fun b o hs => ⟨.inl hs, hS b o hs⟩, fun b d B hb => by simp [M, lk] at hb, fun b c d B d' B' _ hb => by simp [M, lk] at hb⟩
  have hrl := resL_rel (M := M) (gs := d.args) (x := x) (us := us) henc
  let a : Act := { tmps := us.toArray ++ Array.replicate (fn.ntmps - us.toArray.size) undef, defers := [] }
  have hst : IsSt R { tmps := number 0 (resL d.args x), boxes := [] } a w := by
    refine ⟨M, rfl, rfl, I, fun t => ?_⟩
    show RelV M ((lk t (number 0 (resL d.args x))).getD .undef) _
    rw [lk_number]
    simp only [Nat.zero_le, if_true, Nat.sub_zero]
    cases hv : (resL d.args x)[t]? with
    | none => simp [RelV]
    | some v =>
      obtain ⟨u, h1, h2⟩ := hrl.get t hv
      have hlt := (List.getElem?_eq_some_iff.1 h1).1
      have : a.tmps.getD t undef = u := by
        simp only [a, Array.getD_eq_getD_getElem?]
        rw [Array.getElem?_append_left (by simpa using hlt)]
        simp [h1]
      rw [this]
      simpa using h2
  have hall : ∀ t ∈ writes body, t < a.tmps.size := by
    intro t ht
    rw [List.all_eq_true] at hsz
    have := hsz t ht
    rw [Nat.blt_eq] at this
    simp [a]
    omega
  refine calls_of_wp hf hbody (wp_mono ((ev_ok TOK GC DK hmix body hlam).1 R _ a w _ hst hall hh') ?_)
  rintro e a' w' ⟨z, s', rfl, h1, ⟨M', rfl, hb', I', hr'⟩, hap⟩
  have hgr : Grows w M'.w := ⟨I'.os, I'.tape, I'.output, I'.size, fun k hk => I'.frame k hk id⟩
  have fin : ((evRes C fn d.res (.normal, s')).bind fun x => Tree.leaf (Sum.inr x)).holds (fun y => y = bif d.die x then Sum.inl (d.val x) else Sum.inr (d.fn x)) →
      a'.defers = [] ∧ ∃ v, (results fn a'.tmps).run P M'.w = .ok v M'.w ∧ (Grows w M'.w ∧ ((d.die x = true ∧ Ending.returned v = .panicked [{ v := d.val x, recovered := false }]) ∨
        (d.die x = false ∧ ∃ v', Ending.returned v = Ending.returned v' ∧ ∃ N : Stab, (∀ b o, N b o → w.heap.size ≤ b ∧ b < M'.w.heap.size) ∧ RelRes M'.w (fun b o => S b o ∨ N b o) d.res (d.fn x) v'))) := by
    intro hF
    have hF := holds_bind.1 hF
    simp only [evRes] at hF
    split at hF
    · exact hF.elim
    rename_i aas has
    split at hF
    · exact hF.elim
    rename_i y ws htk
    simp only [Tree.holds] at hF
    have hdx : d.die x = false ∧ y = d.fn x := by
      cases hd : d.die x with
      | true => rw [hd] at hF; cases hF
      | false => rw [hd] at hF; exact ⟨rfl, Sum.inr.inj hF⟩
    obtain ⟨hdx, rfl⟩ := hdx
    obtain ⟨us', q1, q2⟩ := resArgs_sound TOK I' hb' hr' has
    obtain ⟨_, S', fz, henc'⟩ := takes_sound I' q2 htk
    refine ⟨hap.defers, _, results_run q1, hgr, .inr ⟨hdx, _, rfl, fun b o => S' b o ∧ w.heap.size ≤ b, fun b o hN => ⟨hN.2, (fz.inv.here b o hN.1).2⟩, us', ?_, by rcases us' with _ | ⟨u, _ | ⟨v, us⟩⟩ <;> rfl⟩⟩
    refine henc'.keeps (fun b o hs => ⟨?_, rfl⟩)
    rcases (fz.inv.here b o hs).1 with h3 | h3 | h3
    · exact .inl h3
    · exact .inr ⟨hs, h3⟩
    · exact h3.elim
  cases z with
  | exit id => exact h1.elim
  | normal => exact fin h1
  | ret => exact fin h1
  | die v =>
    refine ⟨hap.defers, hgr, .inl ?_⟩
    simp only [evResD, Tree.holds] at h1
    cases hd : d.die x with
    | true => rw [hd] at h1; exact ⟨rfl, by rw [Sum.inl.inj h1]⟩
    | false => rw [hd] at h1; cases h1
end
end Go.Ev
/- Loops told by plain functions. -/
set_option linter.unusedVariables false
set_option linter.unusedSimpArgs false
namespace Go.Ev
inductive Sh where
  | val (g : GTy)
  | tip (b : Nat)
  | ptr (b : Nat) (g : GTy)
  | nil
  | undef
inductive BSh where
  | var (g : GTy)
  | row (e : Nat) (g : GTy) (fz : Bool)
  | iter

@[reducible] def ShT : List (Nat × Sh) → Type
  | [] => Unit
  | (_, .val g) :: l => den g × ShT l
  | (_, .tip _) :: l => ShT l
  | (_, .ptr _ _) :: l => ShT l
  | (_, .nil) :: l => ShT l
  | (_, .undef) :: l => ShT l
@[reducible] def ShB : List (Nat × BSh) → Type
  | [] => Unit
  | (_, .var g) :: l => den g × ShB l
  | (_, .row _ g _) :: l => List (den g) × ShB l
  | (_, .iter) :: l => (List UInt8 × Nat) × ShB l

def mkT : (l : List (Nat × Sh)) → ShT l → List (Nat × AV)
  | [], _ => []
  | (t, .val g) :: l, x => (t, .val g x.1) :: mkT l x.2
  | (t, .tip b) :: l, x => (t, .tip b) :: mkT l x
  | (t, .ptr b g) :: l, x => (t, .ptr b g []) :: mkT l x
  | (t, .nil) :: l, x => (t, .cst (.slice none 0 0)) :: mkT l x
  | (t, .undef) :: l, x => (t, .undef) :: mkT l x
def mkB : (l : List (Nat × BSh)) → ShB l → List (Nat × Bool × Box)
  | [], _ => []
  | (b, .var g) :: l, x => (b, false, .var g x.1) :: mkB l x.2
  | (b, .row e g f) :: l, x => (b, false, .row e g x.1 f) :: mkB l x.2
  | (b, .iter) :: l, x => (b, false, .iter x.1.1 x.1.2) :: mkB l x.2

def asV (g : GTy) : AV → Option (den g)
  | .val h x => match GTy.dec h g with
    | .isTrue e => some (e ▸ x)
    | .isFalse _ => none
  | _ => none
def isTip (b : Nat) : AV → Bool
  | .tip c => Nat.beq c b
  | _ => false
def isPtr (b : Nat) (g : GTy) : AV → Bool
  | .ptr c h [] => Nat.beq c b && (match GTy.dec h g with | .isTrue _ => true | .isFalse _ => false)
  | _ => false
def isNil : AV → Bool
  | .cst (.slice none 0 0) => true
  | _ => false
def asVar (g : GTy) : Box → Option (den g)
  | .var h x => match GTy.dec h g with
    | .isTrue e => some (e ▸ x)
    | .isFalse _ => none
  | _ => none
def asRow (e : Nat) (g : GTy) (f : Bool) : Box → Option (List (den g))
  | .row d h x f' => match GTy.dec h g, Nat.beq d e, f', f with
    | .isTrue q, true, true, true => some (q ▸ x)
    | .isTrue q, true, false, false => some (q ▸ x)
    | _, _, _, _ => none
  | _ => none

def asIter : Box → Option (List UInt8 × Nat)
  | .iter y p => some (y, p)
  | _ => none
theorem asIter_eq {v : Box} {x : List UInt8 × Nat} (h : asIter v = some x) : v = .iter x.1 x.2 := by
  cases v <;> simp only [asIter] at h <;> try (cases h; done)
  simp only [Option.some.injEq] at h
  subst h
  rfl

theorem asV_eq {g : GTy} {v : AV} {x : den g} (h : asV g v = some x) : v = .val g x := by
  cases v <;> simp only [asV] at h <;> try (cases h; done)
  split at h
  · rename_i e _
    subst e
    simp only [Option.some.injEq] at h
    rw [h]
  · cases h
theorem isTip_eq {b : Nat} {v : AV} (h : isTip b v = true) : v = .tip b := by
  cases v <;> simp only [isTip] at h <;> try (cases h; done)
  rw [Nat.eq_of_beq_eq_true h]
theorem isPtr_eq {b : Nat} {g : GTy} {v : AV} (h : isPtr b g v = true) : v = .ptr b g [] := by
  cases v <;> simp only [isPtr] at h <;> try (cases h; done)
  rename_i c k p
  cases p with
  | cons _ _ => simp at h
  | nil =>
    simp only [Bool.and_eq_true] at h
    rw [Nat.eq_of_beq_eq_true h.1]
    have h2 := h.2
    split at h2
    · rename_i e _; rw [e]
    · cases h2
theorem isNil_eq {v : AV} (h : isNil v = true) : v = .cst (.slice none 0 0) := by
  unfold isNil at h
  split at h
  · rfl
  · cases h
theorem asVar_eq {g : GTy} {v : Box} {x : den g} (h : asVar g v = some x) : v = .var g x := by
  cases v <;> simp only [asVar] at h <;> try (cases h; done)
  split at h
  · rename_i e _
    subst e
    simp only [Option.some.injEq] at h
    rw [h]
  · cases h
theorem asRow_eq {e : Nat} {g : GTy} {f : Bool} {v : Box} {x : List (den g)} (h : asRow e g f v = some x) : v = .row e g x f := by
  cases v <;> simp only [asRow] at h <;> try (cases h; done)
  rename_i d k xs f'
  cases hd : Nat.beq d e with
  | false => rw [hd] at h; cases hq : GTy.dec k g <;> rw [hq] at h <;> simp at h
  | true =>
    have := Nat.eq_of_beq_eq_true hd
    subst this
    rw [hd] at h
    cases hq : GTy.dec k g with
    | isFalse _ => rw [hq] at h; simp at h
    | isTrue q =>
      subst q
      rw [hq] at h
      cases f <;> cases f' <;> simp at h <;> rw [h]

def unT : (l : List (Nat × Sh)) → List (Nat × AV) → Option (ShT l)
  | [], m => match m with
    | [] => some ()
    | _ :: _ => none
  | (t, .val g) :: l, m => match m with
    | [] => none
    | (u, v) :: m => match Nat.beq u t, asV g v, unT l m with
      | true, some y, some r => some (y, r)
      | _, _, _ => none
  | (t, .tip b) :: l, m => match m with
    | [] => none
    | (u, v) :: m => match Nat.beq u t, isTip b v with
      | true, true => unT l m
      | _, _ => none
  | (t, .ptr b g) :: l, m => match m with
    | [] => none
    | (u, v) :: m => match Nat.beq u t, isPtr b g v with
      | true, true => unT l m
      | _, _ => none
  | (t, .nil) :: l, m => match m with
    | [] => none
    | (u, v) :: m => match Nat.beq u t, isNil v with
      | true, true => unT l m
      | _, _ => none
  | (t, .undef) :: l, m => match m with
    | [] => none
    | (u, v) :: m => match Nat.beq u t, isUndef v with
      | true, true => unT l m
      | _, _ => none

def unB : (l : List (Nat × BSh)) → List (Nat × Bool × Box) → Option (ShB l)
  | [], m => match m with
    | [] => some ()
    | _ :: _ => none
  | (b, .var g) :: l, m => match m with
    | [] => none
    | (c, d, B) :: m => match Nat.beq c b, d, asVar g B, unB l m with
      | true, false, some y, some r => some (y, r)
      | _, _, _, _ => none
  | (b, .row e g f) :: l, m => match m with
    | [] => none
    | (c, d, B) :: m => match Nat.beq c b, d, asRow e g f B, unB l m with
      | true, false, some y, some r => some (y, r)
      | _, _, _, _ => none
  | (b, .iter) :: l, m => match m with
    | [] => none
    | (c, d, B) :: m => match Nat.beq c b, d, asIter B, unB l m with
      | true, false, some y, some r => some (y, r)
      | _, _, _, _ => none

theorem unT_eq : ∀ {l : List (Nat × Sh)} {m : List (Nat × AV)} {x : ShT l}, unT l m = some x → m = mkT l x
  | [], [], _, _ => rfl
  | [], _ :: _, _, h => by simp [unT] at h
  | (t, .val g) :: l, [], _, h => by simp [unT] at h
  | (t, .val g) :: l, (u, v) :: m, x, h => by
    simp only [unT] at h
    split at h
    · rename_i y r h1 h2 h3
      simp only [Option.some.injEq] at h
      subst h
      rw [Nat.eq_of_beq_eq_true h1, asV_eq h2, unT_eq h3]
      rfl
    · cases h
  | (t, .tip b) :: l, [], _, h => by simp [unT] at h
  | (t, .tip b) :: l, (u, v) :: m, x, h => by
    simp only [unT] at h
    split at h
    · rename_i h1 h2
      rw [Nat.eq_of_beq_eq_true h1, isTip_eq h2, unT_eq h]
      rfl
    · cases h
  | (t, .ptr b g) :: l, [], _, h => by simp [unT] at h
  | (t, .ptr b g) :: l, (u, v) :: m, x, h => by
    simp only [unT] at h
    split at h
    · rename_i h1 h2
      rw [Nat.eq_of_beq_eq_true h1, isPtr_eq h2, unT_eq h]
      rfl
    · cases h
  | (t, .nil) :: l, [], _, h => by simp [unT] at h
  | (t, .nil) :: l, (u, v) :: m, x, h => by
    simp only [unT] at h
    split at h
    · rename_i h1 h2
      rw [Nat.eq_of_beq_eq_true h1, isNil_eq h2, unT_eq h]
      rfl
    · cases h
  | (t, .undef) :: l, [], _, h => by simp [unT] at h
  | (t, .undef) :: l, (u, v) :: m, x, h => by
    simp only [unT] at h
    split at h
    · rename_i h1 h2
      have h2' : v = .undef := by cases v <;> simp [isUndef] at h2 ⊢
      rw [Nat.eq_of_beq_eq_true h1, h2', unT_eq h]
      rfl
    · cases h

theorem unB_eq : ∀ {l : List (Nat × BSh)} {m : List (Nat × Bool × Box)} {x : ShB l}, unB l m = some x → m = mkB l x
  | [], [], _, _ => rfl
  | [], _ :: _, _, h => by simp [unB] at h
  | (t, .var g) :: l, [], _, h => by simp [unB] at h
  | (t, .var g) :: l, (u, d, v) :: m, x, h => by
    simp only [unB] at h
    split at h
    · rename_i y r h1 h3 h4
      simp only [Option.some.injEq] at h
      subst h
      rw [Nat.eq_of_beq_eq_true h1, asVar_eq h3, unB_eq h4]
      rfl
    · cases h
  | (t, .row e g f) :: l, [], _, h => by simp [unB] at h
  | (t, .row e g f) :: l, (u, d, v) :: m, x, h => by
    simp only [unB] at h
    split at h
    · rename_i y r h1 h3 h4
      simp only [Option.some.injEq] at h
      subst h
      rw [Nat.eq_of_beq_eq_true h1, asRow_eq h3, unB_eq h4]
      rfl
    · cases h
  | (t, .iter) :: l, [], _, h => by simp [unB] at h
  | (t, .iter) :: l, (u, d, v) :: m, x, h => by
    simp only [unB] at h
    split at h
    · rename_i y r h1 h3 h4
      simp only [Option.some.injEq] at h
      subst h
      rw [Nat.eq_of_beq_eq_true h1, asIter_eq h3, unB_eq h4]
      rfl
    · cases h

def mkS (ts : List (Nat × Sh)) (bs : List (Nat × BSh)) (x : ShT ts × ShB bs) : St := ⟨mkT ts x.1, mkB bs x.2⟩
def unS (ts : List (Nat × Sh)) (bs : List (Nat × BSh)) (s : St) : Option (ShT ts × ShB bs) :=
  match unT ts s.tmps, unB bs s.boxes with
  | some x, some y => some (x, y)
  | _, _ => none
theorem unS_eq {ts : List (Nat × Sh)} {bs : List (Nat × BSh)} {s : St} {x : ShT ts × ShB bs} (h : unS ts bs s = some x) : s = mkS ts bs x := by
  unfold unS at h
  split at h
  · rename_i a b h1 h2
    simp only [Option.some.injEq] at h
    subst h
    obtain ⟨t, b'⟩ := s
    simp only at h1 h2
    rw [unT_eq h1, unB_eq h2]
    rfl
  · cases h
structure LoopD where
  prom : List (Nat × Nat × Nat × GTy)
  ts : List (Nat × Sh)
  bs : List (Nat × BSh)
  pre : ShT ts × ShB bs → Prop
  out : ShT ts × ShB bs → Tree (Ex × (ShT ts × ShB bs))

def LoopD.spec (D : LoopD) : LoopSpec :=
  { prom := D.prom, keep := D.ts.map (·.1), boxes := D.bs.map (·.1),
    sum := fun s => match unS D.ts D.bs s with
      | some x => .need (D.pre x) ((D.out x).bind fun p => .leaf (p.1, mkS D.ts D.bs p.2))
      | none => .stuck }
def LoopOK (C : Ctx) (L : LoopSpec) (body : Code) : Prop := ∀ (s : St) (F : Ex × St → Prop), (L.sum s).holds F → ∃ n, (iter L (ev C body) n s).holds F

theorem Tree.bind_assoc {α β γ : Type} (f : α → Tree β) (g : β → Tree γ) : ∀ t : Tree α, (t.bind f).bind g = t.bind fun a => (f a).bind g
  | .leaf _ => rfl
  | .br _ t e => by simp only [Tree.bind, Tree.bind_assoc f g t, Tree.bind_assoc f g e]
  | .need _ t => by simp only [Tree.bind, Tree.bind_assoc f g t]
  | .stuck => rfl

def cut (L : LoopSpec) (p : Ex × St) : Tree (Ex × St) :=
  match restrict L p.2 with
  | none => .stuck
  | some s' => .leaf (p.1, s')

theorem iter_succ (L : LoopSpec) (f : St → Tree (Ex × St)) (n : Nat) (s : St) : iter L f (n + 1) s = ((f s).bind (cut L)).bind fun p => match p.1 with
    | .normal => iter L f n p.2
    | e => .leaf (e, p.2) := by
  rw [Tree.bind_assoc]
  simp only [iter]
  congr 1
  funext ⟨e, s'⟩
  unfold cut
  simp only
  cases restrict L s' with
  | none => rfl
  | some s'' => cases e <;> simp only [Tree.bind]
def roundOf (C : Ctx) (D : LoopD) (body : Code) (x : ShT D.ts × ShB D.bs) : Tree (Ex × Option (ShT D.ts × ShB D.bs)) :=
  ((ev C body (mkS D.ts D.bs x)).bind (cut D.spec)).bind fun p => .leaf (p.1, unS D.ts D.bs p.2)

section
variable {C : Ctx} {body : Code} {D : LoopD}

theorem loopD_ok {step : ShT D.ts × ShB D.bs → Tree (Ex × Option (ShT D.ts × ShB D.bs))} (hstep : ∀ x, roundOf C D body x = step x) (μ : ShT D.ts × ShB D.bs → Nat)
    (h : ∀ x, D.pre x → (step x).holds fun p => ∃ y, p.2 = some y ∧ match p.1 with
      | .normal => D.pre y ∧ μ y < μ x ∧ ∀ G, (D.out x).holds G → (D.out y).holds G
      | e => ∀ G, (D.out x).holds G → G (e, y)) : LoopOK C D.spec body := by
  intro s F hF
  simp only [LoopD.spec] at hF
  split at hF
  · rename_i x hx
    have hs := unS_eq hx
    subst hs
    obtain ⟨hp, hF⟩ := hF
    have hF' := holds_bind.1 hF
    have main : ∀ n x, μ x < n → D.pre x → (D.out x).holds (fun p => F (p.1, mkS D.ts D.bs p.2)) → (iter D.spec (ev C body) n (mkS D.ts D.bs x)).holds F := by
      intro n
      induction n with
      | zero => intro x hx; omega
      | succ n ih =>
        intro x hx hp ho
        rw [iter_succ]
        have hr := h x hp
        rw [← hstep] at hr
        refine holds_bind.2 (holds_mono ?_ (holds_bind.1 hr))
        rintro ⟨e, s'⟩ hy
        simp only [Tree.holds] at hy
        obtain ⟨y, h1, h2⟩ := hy
        have hs := unS_eq h1
        subst hs
        cases e with
        | normal =>
          simp only at h2 ⊢
          exact ih y (by omega) h2.1 (h2.2.2 _ ho)
        | exit id => exact h2 _ ho
        | ret => exact h2 _ ho
        | die v => exact h2 _ ho
    exact ⟨μ x + 1, main _ x (by omega) hp hF'⟩
  · exact hF.elim
theorem loopD_ok1 {step : ShT D.ts × ShB D.bs → Tree (Ex × Option (ShT D.ts × ShB D.bs))} {o : ShT D.ts × ShB D.bs → Ex × (ShT D.ts × ShB D.bs)} (ho : ∀ x, D.out x = .leaf (o x))
    (hstep : ∀ x, roundOf C D body x = step x) (μ : ShT D.ts × ShB D.bs → Nat)
    (h : ∀ x, D.pre x → (step x).holds fun p => ∃ y, p.2 = some y ∧ match p.1 with
      | .normal => D.pre y ∧ μ y < μ x ∧ o y = o x
      | e => o x = (e, y)) : LoopOK C D.spec body := by
  refine loopD_ok hstep μ fun x hp => holds_mono ?_ (h x hp)
  rintro ⟨e, z⟩ ⟨y, h1, hy⟩
  refine ⟨y, h1, ?_⟩
  cases e with
  | normal => exact ⟨hy.1, hy.2.1, fun G hG => by rw [ho] at hG ⊢; rw [hy.2.2]; exact hG⟩
  | exit id => intro G hG; rw [ho] at hG; simp only at hy; rw [← hy]; exact hG
  | ret => intro G hG; rw [ho] at hG; simp only at hy; rw [← hy]; exact hG
  | die v => intro G hG; rw [ho] at hG; simp only at hy; rw [← hy]; exact hG
end

/-! A function's loops -/

def loopsOf : Code → List (Nat × Code)
  | .seq a b => loopsOf a ++ loopsOf b
  | .cond _ a b => loopsOf a ++ loopsOf b
  | .loop c => loopsOf c
  | .scope c => loopsOf c
  | .block id c => match c with
    | .loop body => (id, body) :: loopsOf body
    | c => loopsOf c
  | _ => []
def loopB (id : Nat) (c : Code) : Code := (lk id (loopsOf c)).getD .skip

theorem lam_of {C : Ctx} : ∀ c : Code, (∀ id body, (id, body) ∈ loopsOf c → ∀ L, C.Λ id = some L → LoopOK C L body) → LamOK C c
  | .seq a b, h => ⟨lam_of a fun id body hm => h id body (by simp [loopsOf, hm]), lam_of b fun id body hm => h id body (by simp [loopsOf, hm])⟩
  | .cond _ a b, h => ⟨lam_of a fun id body hm => h id body (by simp [loopsOf, hm]), lam_of b fun id body hm => h id body (by simp [loopsOf, hm])⟩
  | .loop c, h => lam_of c h
  | .scope c, h => lam_of c h
  | .block id (.loop c), h => ⟨lam_of c fun id body hm => h id body (by simp [loopsOf, hm]), fun body hb L hL => by
      injection hb with hb
      subst hb
      exact h id c (by simp [loopsOf]) L hL⟩
  | .block id (.seq a b), h => ⟨lam_of (.seq a b) (by simpa [loopsOf] using h), fun body hb => nomatch hb⟩
  | .block id (.cond x a b), h => ⟨lam_of (.cond x a b) (by simpa [loopsOf] using h), fun body hb => nomatch hb⟩
  | .block id (.block j c), h => ⟨lam_of (.block j c) (by simpa [loopsOf] using h), fun body hb => nomatch hb⟩
  | .block id .skip, h | .block id (.region ..), h | .block id (.rangeFunc ..), h | .block id (.exit _), h | .block id (.label _), h | .block id (.goto _), h | .block id .ret, h | .block id (.refuse _), h => ⟨trivial, fun body hb => nomatch hb⟩
  | .block id (.scope c), h => ⟨lam_of (.scope c) (by simpa [loopsOf] using h), fun body hb => nomatch hb⟩
  | .skip, _ | .region .., _ | .rangeFunc .., _ | .exit _, _ | .label _, _ | .goto _, _ | .ret, _ | .refuse _, _ => trivial

/-! A loop whose rounds are carried out one by one -/

theorem runOps_congr {C C' : Ctx} (ht : C.τ = C'.τ) (hg : C.Γ = C'.Γ) : ∀ (l : List Oper) (s : St), runOps C l s = runOps C' l s
  | [], s => rfl
  | o :: l, s => by
    simp only [runOps, ht, hg]
    cases opEff C'.τ C'.Γ (o.dst.getD 0) o (s.args o) with
    | none => rfl
    | some e => simp only [runOps_congr ht hg l]
theorem effs_congr {C C' : Ctx} (ht : C.τ = C'.τ) (hg : C.Γ = C'.Γ) : ∀ (l : List Oper) (s : St), effs C l s = effs C' l s
  | [], s => rfl
  | o :: l, s => by
    simp only [effs, ht, hg]
    cases opEff C'.τ C'.Γ (o.dst.getD 0) o (s.args o) with
    | none => rfl
    | some e => simp only [effs_congr ht hg l]
theorem runBr_congr {C C' : Ctx} (ht : C.τ = C'.τ) (hg : C.Γ = C'.Γ) (hd : C.dec = C'.dec) (all : List Oper) : ∀ (l : List Oper) (s : St), runBr C all l s = runBr C' all l s
  | [], s => rfl
  | o :: l, s => by
    have ih := runBr_congr ht hg hd all l
    simp only [runBr, ht, hg, hd, ih]
theorem isDie_congr {C C' : Ctx} (hΔ : C.Δ = C'.Δ) (o : Oper) : isDie C o = isDie C' o := by
  unfold isDie
  rw [hΔ]
theorem dieOf_congr {C C' : Ctx} (hΔ : C.Δ = C'.Δ) (o : Oper) (l : List Arg) : dieOf C o l = dieOf C' o l := by
  unfold dieOf
  rw [hΔ]
theorem runOpsD_congr {C C' : Ctx} (ht : C.τ = C'.τ) (hg : C.Γ = C'.Γ) (hΔ : C.Δ = C'.Δ) : ∀ (l : List Oper) (s : St), runOpsD C l s = runOpsD C' l s
  | [], s => rfl
  | o :: l, s => by
    have ih : runOpsD C l = runOpsD C' l := funext (runOpsD_congr ht hg hΔ l)
    simp only [runOpsD, contD, ht, hg, dieOf_congr hΔ, ih]
theorem dieL_congr {C C' : Ctx} (hΔ : C.Δ = C'.Δ) : ∀ (l : List Oper) (r : List (St × Eff)), dieL C l r = dieL C' l r
  | [], r => by simp only [dieL]
  | _ :: _, [] => by simp only [dieL]
  | o :: l, x :: r => by simp only [dieL, dieOf_congr hΔ, dieL_congr hΔ l r]
theorem dieOK_congr {C C' : Ctx} (hΔ : C.Δ = C'.Δ) : ∀ (l : List Oper) (r : List (St × Eff)), dieOK C l r = dieOK C' l r
  | [], r => by simp only [dieOK]
  | _ :: _, [] => by simp only [dieOK]
  | o :: l, x :: r => by simp only [dieOK, dieOf_congr hΔ, dieOK_congr hΔ l r]
theorem effsNeedD_congr {C C' : Ctx} (hΔ : C.Δ = C'.Δ) (all : List Oper) : ∀ (l : List Oper) (r : List (St × Eff)) (t : Tree (Ex × St)), effsNeedD C all l r t = effsNeedD C' all l r t
  | [], r, t => by simp only [effsNeedD]
  | _ :: _, [], t => by simp only [effsNeedD]
  | o :: l, x :: r, t => by simp only [effsNeedD, dieOf_congr hΔ, effsNeedD_congr hΔ all l r t]
theorem regD_congr {C C' : Ctx} (ht : C.τ = C'.τ) (hg : C.Γ = C'.Γ) (hΔ : C.Δ = C'.Δ) (l : List Oper) (d : Bool) (s : St) : regD C l d s = regD C' l d s := by
  simp only [regD, runDrawD, runOpsD_congr ht hg hΔ, effs_congr ht hg, dieL_congr hΔ, dieOK_congr hΔ, effsNeedD_congr hΔ]
theorem ev_congr {C C' : Ctx} (ht : C.τ = C'.τ) (hg : C.Γ = C'.Γ) (hd : C.dec = C'.dec) (hΔ : C.Δ = C'.Δ) : ∀ (c : Code), (∀ id, id ∈ (loopsOf c).map (·.1) → C.Λ id = C'.Λ id) → ∀ s, ev C c s = ev C' c s
  | .region _ ops draw, h, s => by
    have hi : isDie C = isDie C' := funext (isDie_congr hΔ)
    simp only [ev, hi, regD_congr ht hg hΔ, runDraw, runOps_congr ht hg, effs_congr ht hg, runBr_congr ht hg hd]
  | .seq a b, h, s => by
    have ha := ev_congr ht hg hd hΔ a (fun id hm => h id (by simp only [loopsOf, List.map_append, List.mem_append]; exact .inl hm))
    have hb := ev_congr ht hg hd hΔ b (fun id hm => h id (by simp only [loopsOf, List.map_append, List.mem_append]; exact .inr hm))
    simp only [ev, ha]
    congr 1
    funext ⟨e, s'⟩
    cases e <;> simp only [hb]
  | .cond c a b, h, s => by
    have ha := ev_congr ht hg hd hΔ a (fun id hm => h id (by simp only [loopsOf, List.map_append, List.mem_append]; exact .inl hm))
    have hb := ev_congr ht hg hd hΔ b (fun id hm => h id (by simp only [loopsOf, List.map_append, List.mem_append]; exact .inr hm))
    simp only [ev, ha, hb, hd]
  | .block id (.loop body), h, s => by
    have := h id (by simp [loopsOf])
    simp only [ev, this]
  | .block id (.seq a b), h, s => by simp only [ev]; rw [← ev, ← ev, ev_congr ht hg hd hΔ (.seq a b) (by simpa [loopsOf] using h)]
  | .block id (.cond x a b), h, s => by
    have := ev_congr ht hg hd hΔ (.cond x a b) (by simpa [loopsOf] using h) s
    simp only [ev] at this ⊢
    rw [this]
  | .block id (.block j c), h, s => by
    have := ev_congr ht hg hd hΔ (.block j c) (by simpa [loopsOf] using h) s
    show (ev C (.block j c) s).bind _ = (ev C' (.block j c) s).bind _
    rw [this]
  | .block id (.region i ops d), h, s => by
    have := ev_congr ht hg hd hΔ (.region i ops d) (by simp [loopsOf]) s
    show (ev C (.region i ops d) s).bind _ = (ev C' (.region i ops d) s).bind _
    rw [this]
  | .block id (.scope c), h, s => by
    have := ev_congr ht hg hd hΔ (.scope c) (by simpa [loopsOf] using h) s
    show (ev C (.scope c) s).bind _ = (ev C' (.scope c) s).bind _
    rw [this]
  | .scope c, h, s => by simp only [ev]; exact ev_congr ht hg hd hΔ c h s
  | .block id .skip, h, s | .block id (.rangeFunc ..), h, s | .block id (.exit _), h, s | .block id (.label _), h, s | .block id (.goto _), h, s | .block id .ret, h, s | .block id (.refuse _), h, s => by simp only [ev]
  | .loop c, h, s => by simp only [ev]
  | .skip, _, _ | .rangeFunc .., _, _ | .exit _, _, _ | .label _, _, _ | .goto _, _, _ | .ret, _, _ | .refuse _, _, _ => by simp only [ev]

theorem iter_congr {L L' : LoopSpec} (hk : L.keep = L'.keep) (hb : L.boxes = L'.boxes) {f f' : St → Tree (Ex × St)} (hf : ∀ s, f s = f' s) : ∀ n s, iter L f n s = iter L' f' n s
  | 0, s => rfl
  | n + 1, s => by
    have hr : ∀ s, restrict L s = restrict L' s := fun s => by unfold restrict; rw [hk, hb]
    simp only [iter, hf, hr, iter_congr hk hb hf n]

def rounds (C : Ctx) (body : Code) (prom : List (Nat × Nat × Nat × GTy)) (keep boxes : List Nat) (n : Nat) : LoopSpec :=
  { prom := prom, keep := keep, boxes := boxes, sum := fun s => iter { prom := [], keep := keep, boxes := boxes, sum := fun _ => .stuck } (ev C body) n s }

theorem rounds_ok {C C' : Ctx} {body : Code} {prom : List (Nat × Nat × Nat × GTy)} {keep boxes : List Nat} {n : Nat} (ht : C.τ = C'.τ) (hg : C.Γ = C'.Γ) (hd : C.dec = C'.dec) (hl : ∀ id, id ∈ (loopsOf body).map (·.1) → C.Λ id = C'.Λ id) (hΔ : C.Δ = C'.Δ := by rfl) :
    LoopOK C (rounds C' body prom keep boxes n) body := by
  intro s F hF
  refine ⟨n, ?_⟩
  have : ∀ m t, iter (rounds C' body prom keep boxes n) (ev C body) m t = iter { prom := [], keep := keep, boxes := boxes, sum := fun _ => .stuck } (ev C' body) m t := iter_congr (L := rounds C' body prom keep boxes n) (L' := { prom := [], keep := keep, boxes := boxes, sum := fun _ => .stuck }) rfl rfl (ev_congr ht hg hd hΔ body hl)
  rw [this]
  exact hF

theorem rounds_ok0 {C C' : Ctx} {body : Code} {prom : List (Nat × Nat × Nat × GTy)} {keep boxes : List Nat} {n : Nat} (ht : C.τ = C'.τ) (hg : C.Γ = C'.Γ) (hd : C.dec = C'.dec) (hl : (loopsOf body).isEmpty = true) (hΔ : C.Δ = C'.Δ := by rfl) :
    LoopOK C (rounds C' body prom keep boxes n) body :=
  rounds_ok ht hg hd (fun id hm => by
    rw [List.isEmpty_iff.1 hl] at hm
    simp at hm) hΔ

theorem lk_mem {α : Type} {k : Nat} {v : α} : ∀ {l : List (Nat × α)}, nodupN (l.map (·.1)) = true → (k, v) ∈ l → lk k l = some v
  | (j, u) :: l, hn, hm => by
    simp only [List.map_cons, nodupN, Bool.and_eq_true, Bool.not_eq_true'] at hn
    rcases List.mem_cons.1 hm with e | hm
    · simp only [Prod.mk.injEq] at e
      obtain ⟨rfl, rfl⟩ := e
      simp [lk]
    · have ih := lk_mem hn.2 hm
      simp only [lk]
      cases hb : Nat.beq j k with
      | false => exact ih
      | true =>
        have := Nat.eq_of_beq_eq_true hb
        subst this
        have : memN j (l.map (·.1)) = true := memN_iff.2 (List.mem_map.2 ⟨_, hm, rfl⟩)
        rw [this] at hn
        simp at hn
  | [], _, hm => by cases hm

theorem lk_all {α : Type} {Q : Nat → α → Prop} : ∀ {l : List (Nat × α)}, (∀ p ∈ l, Q p.1 p.2) → ∀ {k v}, lk k l = some v → Q k v
  | (j, u) :: l, h, k, v, hk => by
    simp only [lk] at hk
    cases hb : Nat.beq j k with
    | true =>
      rw [hb] at hk
      simp only [Option.some.injEq] at hk
      have := Nat.eq_of_beq_eq_true hb
      subst this
      subst hk
      exact h (j, u) (by simp)
    | false =>
      rw [hb] at hk
      exact lk_all (fun p hp => h p (by simp [hp])) hk
  | [], _, _, _, hk => by simp [lk] at hk

def fnOf (P : Program) (f : Nat) : Func := (P.funcs[f]?).getD default
theorem fnOf_eq {P : Program} {f : Nat} (h : (P.funcs[f]?).isSome = true) : P.funcs[f]? = some (fnOf P f) := by
  unfold fnOf
  cases hh : P.funcs[f]? with
  | none => rw [hh] at h; cases h
  | some x => rfl
def bodyOf (fn : Func) : Code := fn.body.getD .skip
theorem bodyOf_eq {fn : Func} (h : fn.body.isSome = true) : fn.body = some (bodyOf fn) := by
  unfold bodyOf
  cases hh : fn.body with
  | none => rw [hh] at h; cases h
  | some x => rfl

theorem ctrs_nil {P : Program} : CtrsOK P (fun f => lk f []) := fun f c h => by simp [lk] at h
theorem keys_cons {P : Program} {n : Nat} {c : Ctr} {l : List (Nat × Ctr)} (h : KeyOK P n c) (t : CtrsOK P (fun f => lk f l)) : CtrsOK P (fun f => lk f ((n, c) :: l)) := fun f c' h' => by
  simp only [lk] at h'
  cases hb : Nat.beq n f with
  | true =>
    rw [hb] at h'
    simp only [Option.some.injEq] at h'
    have := Nat.eq_of_beq_eq_true hb
    subst this
    subst h'
    exact h
  | false =>
    rw [hb] at h'
    exact t f c' h'
theorem ctrs_cons {P : Program} {n : Nat} {c : Ctr} {l : List (Nat × Ctr)} (h : CtrOK P n c) (t : CtrsOK P (fun f => lk f l)) (hn : Nat.blt n cloB = true := by rfl) : CtrsOK P (fun f => lk f ((n, c) :: l)) := keys_cons (KeyOK.of h hn) t
theorem ctrs_clo {P : Program} {n : Nat} {c : Ctr} {l : List (Nat × Ctr)} (h : CloOK P n c) (t : CtrsOK P (fun f => lk f l)) (hn : Nat.blt n cloB = true := by rfl) : CtrsOK P (fun f => lk f ((cloB + n, c) :: l)) := keys_cons (KeyOK.of_clo h hn) t
theorem ctrs_mk {P : Program} {n : Nat} {c : Ctr} {l : List (Nat × Ctr)} (h : MkOK P n c) (t : CtrsOK P (fun f => lk f l)) : CtrsOK P (fun f => lk f ((cloB + cloB + n, c) :: l)) := keys_cons (KeyOK.of_mk h) t

theorem lp_nil {C : Ctx} {b : Code} : ∀ p ∈ ([] : List (Nat × LoopSpec)), LoopOK C p.2 (loopB p.1 b) := fun p hp => by cases hp
theorem lp_cons {C : Ctx} {b : Code} {id : Nat} {L : LoopSpec} {l : List (Nat × LoopSpec)} (h : LoopOK C L (loopB id b)) (t : ∀ p ∈ l, LoopOK C p.2 (loopB p.1 b)) : ∀ p ∈ (id, L) :: l, LoopOK C p.2 (loopB p.1 b) := fun p hp => by
  rcases List.mem_cons.1 hp with rfl | hp
  · exact h
  · exact t p hp
def Tree.val {α : Type} (d : α) : Tree α → α
  | .leaf a => a
  | .br c t e => bif c then t.val d else e.val d
  | .need _ t => t.val d
  | .stuck => d
def Tree.safe {α : Type} : Tree α → Prop
  | .leaf _ => True
  | .br c t e => (c = true → t.safe) ∧ (c = false → e.safe)
  | .need p t => p ∧ t.safe
  | .stuck => False
theorem holds_val {α : Type} {d a : α} : ∀ {t : Tree α}, t.val d = a → t.safe → t.holds (fun y => y = a)
  | .leaf _, h, _ => h
  | .br c t e, h, hs => by
    refine ⟨fun hc => holds_val (d := d) (by simpa [Tree.val, hc] using h) (hs.1 hc), fun hc => holds_val (d := d) (by simpa [Tree.val, hc] using h) (hs.2 hc)⟩
  | .need _ t, h, hs => ⟨hs.1, holds_val (d := d) h hs.2⟩
  | .stuck, _, hs => hs.elim
def mkC (τ : Tys) (G : List (Nat × Ctr)) (Λ : List (Nat × LoopSpec)) (d : Bool := false) (D : List (Nat × DCtr) := []) : Ctx := ⟨τ, fun f => lk f G, fun id => lk id Λ, d, fun f => lk f D⟩
theorem dsOK_nil {P : Program} {C : Ctx} (h : C.Δ = fun _ => none) : DsOK P C := fun f d hd => by
  rw [h] at hd
  cases hd
theorem fun_okX (d : Bool) {P : Program} {τ : Tys} {G : List (Nat × Ctr)} {Λ : List (Nat × LoopSpec)} (TOK : TysOK P τ) (GC : CtrsOK P (fun f => lk f G)) (hmix : P.follows .mixedOrders = true) {f : Nat} {c : Ctr}
    (hf : (P.funcs[f]?).isSome = true) (hname : ((fnOf P f).name == "runtime.NumGoroutine") = false) (hbody : (fnOf P f).body.isSome = true) (hnd : nodupN ((loopsOf (bodyOf (fnOf P f))).map (·.1)) = true)
    (hloops : ∀ p ∈ Λ, LoopOK (mkC τ G Λ d) p.2 (loopB p.1 (bodyOf (fnOf P f))))
    (h : ∀ x : dens c.args, wtD c.args x → (∀ p, c.pre = some p → p x) → (evFn (mkC τ G Λ d) (fnOf P f) (resL c.args x) c.res).holds (fun y => y = c.fn x)) : CtrOK P f c := by
  refine ctr_of_ev (C := mkC τ G Λ d) (fn := fnOf P f) TOK GC (dsOK_nil rfl) hmix (fnOf_eq hf) hname (bodyOf_eq hbody) (lam_of _ fun id body hm L hL => ?_) h
  have hk := lk_mem hnd hm
  have := lk_all (Q := fun id L => LoopOK (mkC τ G Λ d) L (loopB id (bodyOf (fnOf P f)))) hloops hL
  unfold loopB at this
  rw [hk] at this
  exact this
theorem fun_ok {P : Program} {τ : Tys} {G : List (Nat × Ctr)} {Λ : List (Nat × LoopSpec)} (TOK : TysOK P τ) (GC : CtrsOK P (fun f => lk f G)) (hmix : P.follows .mixedOrders = true) {f : Nat} {c : Ctr}
    (hf : (P.funcs[f]?).isSome = true) (hname : ((fnOf P f).name == "runtime.NumGoroutine") = false) (hbody : (fnOf P f).body.isSome = true) (hnd : nodupN ((loopsOf (bodyOf (fnOf P f))).map (·.1)) = true)
    (hloops : ∀ p ∈ Λ, LoopOK (mkC τ G Λ) p.2 (loopB p.1 (bodyOf (fnOf P f))))
    (h : ∀ x : dens c.args, wtD c.args x → (∀ p, c.pre = some p → p x) → (evFn (mkC τ G Λ) (fnOf P f) (resL c.args x) c.res).holds (fun y => y = c.fn x)) : CtrOK P f c :=
  fun_okX false TOK GC hmix hf hname hbody hnd hloops h
theorem ds_nil {P : Program} {G : List (Nat × Ctr)} : ∀ f d, lk f ([] : List (Nat × DCtr)) = some d → lk f G = some d.ctr ∧ DCtrOK P f d := fun f d h => by simp [lk] at h
theorem ds_cons {P : Program} {G : List (Nat × Ctr)} {n : Nat} {d : DCtr} {D : List (Nat × DCtr)} (h : DCtrOK P n d) (hG : lk n G = some d.ctr) (t : ∀ f d, lk f D = some d → lk f G = some d.ctr ∧ DCtrOK P f d) :
    ∀ f d', lk f ((n, d) :: D) = some d' → lk f G = some d'.ctr ∧ DCtrOK P f d' := fun f d' h' => by
  simp only [lk] at h'
  cases hb : Nat.beq n f with
  | true =>
    rw [hb] at h'
    simp only [Option.some.injEq] at h'
    have := Nat.eq_of_beq_eq_true hb
    subst this
    subst h'
    exact ⟨hG, h⟩
  | false =>
    rw [hb] at h'
    exact t f d' h'
theorem funD_ok {P : Program} {τ : Tys} {G : List (Nat × Ctr)} {Λ : List (Nat × LoopSpec)} {D : List (Nat × DCtr)} (TOK : TysOK P τ) (GC : CtrsOK P (fun f => lk f G)) (DK : ∀ f d, lk f D = some d → lk f G = some d.ctr ∧ DCtrOK P f d) (hmix : P.follows .mixedOrders = true) {f : Nat} {c : DCtr}
    (hf : (P.funcs[f]?).isSome = true) (hname : ((fnOf P f).name == "runtime.NumGoroutine") = false) (hbody : (fnOf P f).body.isSome = true) (hnd : nodupN ((loopsOf (bodyOf (fnOf P f))).map (·.1)) = true)
    (hloops : ∀ p ∈ Λ, LoopOK (mkC τ G Λ false D) p.2 (loopB p.1 (bodyOf (fnOf P f))))
    (h : ∀ x : dens c.args, wtD c.args x → c.pre x → (evFnD (mkC τ G Λ false D) (fnOf P f) (resL c.args x) c.res).holds (fun y => y = bif c.die x then .inl (c.val x) else .inr (c.fn x))) : DCtrOK P f c := by
  refine dctr_of_ev (C := mkC τ G Λ false D) (fn := fnOf P f) TOK GC DK hmix (fnOf_eq hf) hname (bodyOf_eq hbody) (lam_of _ fun id body hm L hL => ?_) h
  have hk := lk_mem hnd hm
  have := lk_all (Q := fun id L => LoopOK (mkC τ G Λ false D) L (loopB id (bodyOf (fnOf P f)))) hloops hL
  unfold loopB at this
  rw [hk] at this
  exact this
end Go.Ev
/- The types of this seat's program, and what holds of it as a whole. -/
namespace Go.Ev.Z
open Go.Proofs
def tyL : List (Option TInfo) := [
  none,
  none,
  some ⟨.int .i64, 0, 8, 0⟩,
  some ⟨.int .i64, 0, 8, 0⟩,
  some ⟨.bool, 0, 1, 0⟩,
  some ⟨.int .u8, 0, 1, 0⟩,
  some ⟨.int .u8, 0, 1, 0⟩,
  none,
  none,
  some ⟨.str, 0, 16, 0⟩,
  some ⟨.str, 0, 16, 0⟩,
  some ⟨.str, 0, 16, 0⟩,
  some ⟨.int .u64, 0, 8, 0⟩,
  none,
  none,
  none,
  none,
  none,
  none,
  none,
  some ⟨.err, 0, 16, 0⟩,
  some ⟨.int .i32, 0, 4, 0⟩,
  some ⟨.int .u32, 0, 4, 0⟩,
  some ⟨.prod (.int .u32) (.int .u32), 2, 8, 0⟩,
  some ⟨.prod (.int .u32) (.int .u32), 2, 8, 0⟩,
  some ⟨.sl (.prod (.int .i64) (.prod (.int .i64) (.prod (.int .u32) (.int .i64)))), 0, 32, 66⟩,
  none,
  none,
  some ⟨.sl (.prod (.int .i64) (.prod .str (.prod (.int .i64) (.int .i64)))), 0, 40, 164⟩,
  some ⟨.sl (.prod (.int .i64) (.prod (.prod (.prod (.int .u32) (.int .u32)) (.prod (.int .u32) (.int .u32))) (.prod (.int .i64) (.prod .bool (.sl (.prod (.int .i64) (.prod (.int .i64) (.prod (.int .u32) (.int .i64))))))))), 0, 64, 52⟩,
  some ⟨.prod (.int .i64) (.sl (.prod (.int .i64) (.prod (.prod (.prod (.int .u32) (.int .u32)) (.prod (.int .u32) (.int .u32))) (.prod (.int .i64) (.prod .bool (.sl (.prod (.int .i64) (.prod (.int .i64) (.prod (.int .u32) (.int .i64)))))))))), 2, 32, 0⟩,
  some ⟨.prod (.int .i64) (.sl (.prod (.int .i64) (.prod (.prod (.prod (.int .u32) (.int .u32)) (.prod (.int .u32) (.int .u32))) (.prod (.int .i64) (.prod .bool (.sl (.prod (.int .i64) (.prod (.int .i64) (.prod (.int .u32) (.int .i64)))))))))), 2, 32, 0⟩,
  some ⟨.prod (.int .i64) (.prod (.sl (.prod (.int .i64) (.prod .str (.prod (.int .i64) (.int .i64))))) (.prod (.prod (.int .i64) (.sl (.prod (.int .i64) (.prod (.prod (.prod (.int .u32) (.int .u32)) (.prod (.int .u32) (.int .u32))) (.prod (.int .i64) (.prod .bool (.sl (.prod (.int .i64) (.prod (.int .i64) (.prod (.int .u32) (.int .i64))))))))))) (.sl (.prod (.int .i64) (.prod (.int .i64) (.prod (.int .u32) (.int .i64))))))), 4, 88, 0⟩,
  some ⟨.prod (.int .i64) (.prod (.sl (.prod (.int .i64) (.prod .str (.prod (.int .i64) (.int .i64))))) (.prod (.prod (.int .i64) (.sl (.prod (.int .i64) (.prod (.prod (.prod (.int .u32) (.int .u32)) (.prod (.int .u32) (.int .u32))) (.prod (.int .i64) (.prod .bool (.sl (.prod (.int .i64) (.prod (.int .i64) (.prod (.int .u32) (.int .i64))))))))))) (.sl (.prod (.int .i64) (.prod (.int .i64) (.prod (.int .u32) (.int .i64))))))), 4, 88, 0⟩,
  some ⟨.prod (.int .i64) (.prod (.prod (.int .u32) (.int .u32)) (.prod (.prod (.int .u32) (.int .u32)) (.prod (.int .i64) (.prod (.int .i64) (.prod (.int .i64) (.prod (.sl (.prod (.int .i64) (.prod .str (.prod (.int .i64) (.int .i64))))) (.prod (.prod (.int .i64) (.sl (.prod (.int .i64) (.prod (.prod (.prod (.int .u32) (.int .u32)) (.prod (.int .u32) (.int .u32))) (.prod (.int .i64) (.prod .bool (.sl (.prod (.int .i64) (.prod (.int .i64) (.prod (.int .u32) (.int .i64))))))))))) (.sl (.prod (.int .i64) (.prod (.int .i64) (.prod (.int .u32) (.int .i64)))))))))))), 6, 128, 0⟩,
  some ⟨.prod (.int .i64) (.prod (.prod (.int .u32) (.int .u32)) (.prod (.prod (.int .u32) (.int .u32)) (.prod (.int .i64) (.prod (.int .i64) (.prod (.int .i64) (.prod (.sl (.prod (.int .i64) (.prod .str (.prod (.int .i64) (.int .i64))))) (.prod (.prod (.int .i64) (.sl (.prod (.int .i64) (.prod (.prod (.prod (.int .u32) (.int .u32)) (.prod (.int .u32) (.int .u32))) (.prod (.int .i64) (.prod .bool (.sl (.prod (.int .i64) (.prod (.int .i64) (.prod (.int .u32) (.int .i64))))))))))) (.sl (.prod (.int .i64) (.prod (.int .i64) (.prod (.int .u32) (.int .i64)))))))))))), 6, 128, 0⟩,
  none,
  none,
  none,
  some ⟨.prod (.prod (.int .u32) (.int .u32)) (.prod (.int .u32) (.int .u32)), 2, 16, 0⟩,
  some ⟨.prod (.prod (.int .u32) (.int .u32)) (.prod (.int .u32) (.int .u32)), 2, 16, 0⟩,
  none,
  some ⟨.sl .str, 0, 16, 9⟩,
  some ⟨.int .i64, 0, 8, 0⟩,
  none,
  none,
  some ⟨.prod (.int .i64) (.prod (.int .i64) (.prod (.int .i64) (.int .i64))), 4, 32, 0⟩,
  some ⟨.prod (.int .i64) (.prod (.int .i64) (.prod (.int .i64) (.int .i64))), 4, 32, 0⟩,
  none,
  none,
  none,
  some ⟨.prod (.int .i64) (.prod (.prod (.prod (.int .u32) (.int .u32)) (.prod (.int .u32) (.int .u32))) (.prod (.int .i64) (.prod .bool (.sl (.prod (.int .i64) (.prod (.int .i64) (.prod (.int .u32) (.int .i64)))))))), 5, 64, 0⟩,
  some ⟨.prod (.int .i64) (.prod (.prod (.prod (.int .u32) (.int .u32)) (.prod (.int .u32) (.int .u32))) (.prod (.int .i64) (.prod .bool (.sl (.prod (.int .i64) (.prod (.int .i64) (.prod (.int .u32) (.int .i64)))))))), 5, 64, 0⟩,
  none,
  none,
  some ⟨.sl (.sl (.prod (.int .i64) (.prod (.int .i64) (.prod (.int .u32) (.int .i64))))), 0, 24, 25⟩,
  none,
  none,
  some ⟨.prod (.int .i64) (.prod (.prod (.prod (.int .u32) (.int .u32)) (.prod (.int .u32) (.int .u32))) (.prod (.int .i64) (.int .i64))), 4, 40, 0⟩,
  some ⟨.prod (.int .i64) (.prod (.prod (.prod (.int .u32) (.int .u32)) (.prod (.int .u32) (.int .u32))) (.prod (.int .i64) (.int .i64))), 4, 40, 0⟩,
  none,
  none,
  none,
  none,
  none,
  some ⟨.prod (.int .i64) (.prod (.int .i64) (.prod (.int .u32) (.int .i64))), 4, 32, 0⟩,
  some ⟨.prod (.int .i64) (.prod (.int .i64) (.prod (.int .u32) (.int .i64))), 4, 32, 0⟩,
  none,
  none,
  none,
  none,
  none,
  none,
  none,
  some ⟨.prod (.int .i64) (.prod (.prod (.int .u32) (.int .u32)) (.prod (.int .u32) (.int .u32))), 2, 24, 0⟩,
  some ⟨.prod (.int .i64) (.prod (.prod (.int .u32) (.int .u32)) (.prod (.int .u32) (.int .u32))), 2, 24, 0⟩,
  none,
  none,
  none,
  none,
  none,
  none,
  none,
  none,
  none,
  some ⟨.sl (.int .u8), 0, 1, 5⟩,
  none,
  none,
  none,
  some ⟨.err, 0, 16, 0⟩,
  some ⟨.err, 0, 16, 0⟩,
  none,
  none,
  none,
  none,
  none,
  none,
  none,
  none,
  none,
  none,
  none,
  none,
  none,
  none,
  none,
  none,
  none,
  none,
  none,
  none,
  none,
  none,
  none,
  none,
  none,
  none,
  none,
  none,
  none,
  none,
  none,
  none,
  none,
  none,
  none,
  none,
  none,
  none,
  none,
  none,
  some ⟨.int .u64, 0, 8, 0⟩,
  none,
  none,
  none,
  none,
  none,
  none,
  none,
  none,
  none,
  none,
  none,
  none,
  none,
  none,
  none,
  none,
  none,
  none,
  none,
  none,
  none,
  none,
  none,
  none,
  none,
  none,
  none,
  none,
  none,
  none,
  none,
  some ⟨.prod (.int .i64) (.prod .str (.prod (.int .i64) (.int .i64))), 4, 40, 0⟩,
  some ⟨.prod (.int .i64) (.prod .str (.prod (.int .i64) (.int .i64))), 4, 40, 0⟩,
  some ⟨.int .u64, 0, 8, 0⟩,
  none,
  none,
  none,
  none,
  none,
  some ⟨.arr 4 (.int .u32), 0, 16, 0⟩,
  none,
  none,
  none,
  some ⟨.sl (.int .i64), 0, 8, 3⟩,
  none,
  none,
  none,
  none,
  none,
  none,
  none,
  none,
  none,
  none,
  none,
  none,
  none,
  some ⟨.arr 3 (.int .i64), 0, 24, 0⟩,
  none,
  none,
  none,
  some ⟨.arr 8 (.int .i64), 0, 64, 0⟩,
  none,
  none,
  some ⟨.arr 17 (.int .u8), 0, 17, 0⟩,
  some ⟨.arr 2 (.prod (.int .u32) (.int .u32)), 0, 16, 0⟩,
  none,
  none,
  none,
  none,
  none,
  none,
  none,
  none,
  none,
  none,
  none,
  none,
  none,
  none,
  some ⟨.int .u8, 0, 1, 0⟩,
  some ⟨.int .u8, 0, 1, 0⟩,
  none,
  some ⟨.int .i32, 0, 4, 0⟩,
  some ⟨.int .i32, 0, 4, 0⟩,
  none,
  none]

def tys : Tys := fun t => tyL.getD t none
theorem tysOK : TysOK Tryz.prog tys := tysOK_of_chk (by kernel_rfl)
theorem mixed : Tryz.prog.follows .mixedOrders = true := by kernel_rfl
theorem tab_any {S : Stab} {w : World} : Tab S w := ⟨fun p hp => (by cases hp), fun p hp => (by cases hp)⟩
end Go.Ev.Z
/- Epochs and numbers in bytes, plainly. -/
set_option linter.unusedVariables false
namespace Go.Ev

abbrev gE : GTy := .prod (.int .u32) (.int .u32)
abbrev gPair : GTy := .prod gE gE

def newerF (a b : Int × Int) : Bool := bif a.1 != b.1 then decide (a.1 > b.1) else decide (a.2 > b.2)
def nextF (e : Int × Int) : (Int × Int) × Int := bif e.2 == 4294967295 then ((0, 0), 11) else ((e.1, e.2 + 1), 0)
def noneF (e : Int × Int) : Bool := e.1 == 0 && e.2 == 0
def swapF (p : (Int × Int) × (Int × Int)) : (Int × Int) × (Int × Int) := (p.2, p.1)
def sameF (a b : (Int × Int) × (Int × Int)) : Bool := geq gPair a (swapF b) && !(noneF a.1) && !(noneF a.2)
def numB : Nat → Nat → List UInt8
  | 0, _ => []
  | k + 1, n => numB k (n / 256) ++ [UInt8.ofNat (n % 256)]
def bigN (l : List UInt8) : Nat := l.foldl (fun a b => a * 256 + b.toNat) 0

theorem numB_len : ∀ k n, (numB k n).length = k
  | 0, _ => rfl
  | k + 1, n => by simp [numB, numB_len k]
theorem bigN_snoc (l : List UInt8) (b : UInt8) : bigN (l ++ [b]) = bigN l * 256 + b.toNat := by simp [bigN]
theorem bigN_num : ∀ k n, bigN (numB k n) = n % 256 ^ k
  | 0, n => by simp [numB, bigN, Nat.mod_one]
  | k + 1, n => by
    rw [numB, bigN_snoc, bigN_num k]
    have h : (UInt8.ofNat (n % 256)).toNat = n % 256 := by simp
    rw [h, Nat.pow_succ, Nat.mul_comm (256 ^ k) 256, Nat.mod_mul]
    omega
theorem big_lt : ∀ (l : List UInt8) (a : Nat), l.foldl (fun a b => a * 256 + b.toNat) a < (a + 1) * 256 ^ l.length
  | [], a => by simp
  | b :: l, a => by
    have h := big_lt l (a * 256 + b.toNat)
    have hb := b.toNat_lt
    simp only [List.foldl_cons, List.length_cons, Nat.pow_succ]
    refine Nat.lt_of_lt_of_le h ?_
    rw [Nat.mul_comm (256 ^ l.length) 256, ← Nat.mul_assoc]
    exact Nat.mul_le_mul_right _ (by omega)
theorem bigN_lt (l : List UInt8) : bigN l < 256 ^ l.length := by
  have := big_lt l 0
  simpa [bigN] using this
def numF (n k : Int) : List UInt8 := numB (min (max k 0) 8).toNat n.toNat
def takeF (s : List UInt8) (k : Int) : Int × List UInt8 × Int :=
  bif bif decide (k < 0) then true else decide (k > 8) then (0, [], 1) else bif decide ((s.length : Int) < k) then (0, [], 2) else ((bigN (s.take k.toNat) : Int), s.drop k.toNat, 0)

theorem u8_toNat_lt (b : UInt8) : (b.toNat : Int) < 256 := by have := b.toNat_lt; omega

theorem take_step {s : List UInt8} {i : Int} (h0 : 0 ≤ i) (hi : i < s.length) (h7 : i < 8) :
    bitsOp .or .u64 (IntKind.u64.wrap ((bigN (s.take i.toNat) : Int) * 256)) (IntKind.u64.wrap ((s.getD i.toNat 0).toNat : Int)) = (bigN (s.take (i + 1).toNat) : Int) := by
  have hlt := bigN_lt (s.take i.toNat)
  have hlen : (s.take i.toNat).length = i.toNat := by rw [List.length_take]; omega
  rw [hlen] at hlt
  have hp : (256 : Nat) ^ i.toNat ≤ 256 ^ 7 := Nat.pow_le_pow_right (by omega) (by omega)
  have hb := u8_toNat_lt (s.getD i.toNat 0)
  have hn : s.take (i + 1).toNat = s.take i.toNat ++ [s.getD i.toNat 0] := by
    rw [show (i + 1).toNat = i.toNat + 1 by omega, List.take_add_one]
    simp [List.getD, show i.toNat < s.length by omega]
  generalize s.getD i.toNat 0 = b at *
  rw [hn, bigN_snoc]
  generalize bigN (s.take i.toNat) = n at *
  have h7' : (256 : Nat) ^ 7 = 72057594037927936 := by decide
  rw [u64_id (by omega) (by omega), u64_id (by omega) (by omega)]
  have hor : (n * 256) ||| b.toNat = n * 256 + b.toNat := by
    have := Nat.two_pow_add_eq_or_of_lt (i := 8) (b := b.toNat) b.toNat_lt n
    rw [show (2 : Nat) ^ 8 = 256 by decide] at this
    rw [Nat.mul_comm n 256, this]
  rw [or_nat (by omega) (by show (n : Int) * 256 < 18446744073709551616; omega) (by omega) (by show (b.toNat : Int) < 18446744073709551616; omega)]
  · rw [show ((n : Int) * 256).toNat = n * 256 by omega, show ((b.toNat : Int)).toNat = b.toNat by omega, hor]
  · rw [show ((n : Int) * 256).toNat = n * 256 by omega, show ((b.toNat : Int)).toNat = b.toNat by omega, hor, has_u64]
    omega
def numI (k n : Nat) : List Int := (numB k n).map fun b => (b.toNat : Int)
theorem numI_succ (k n : Nat) : numI (k + 1) n = numI k (n / 256) ++ [((n % 256 : Nat) : Int)] := by simp [numI, numB]
theorem bytesToStr_map (l : List UInt8) : bytesToStr (l.map fun b => (b.toNat : Int)) = l := by
  unfold bytesToStr
  rw [List.map_map]
  have : ((fun n : Int => UInt8.ofNat n.toNat) ∘ fun b : UInt8 => (b.toNat : Int)) = id := by
    funext b
    simp
  rw [this, List.map_id]
theorem bytesToStr_numI (k n : Nat) : bytesToStr (numI k n) = numB k n := bytesToStr_map _
theorem low_byte {n : Int} (h0 : 0 ≤ n) (h1 : n < 18446744073709551616) : IntKind.u8.wrap (bitsOp .and .u64 n 255) = ((n.toNat % 256 : Nat) : Int) := by
  have hand : n.toNat &&& 255 = n.toNat % 256 := Nat.and_two_pow_sub_one_eq_mod n.toNat 8
  have e : ((255 : Int)).toNat = 255 := rfl
  rw [and_nat h0 (by show n < 18446744073709551616; exact h1) (by omega) (by show (255 : Int) < 18446744073709551616; omega)]
  · rw [e, hand, u8_id (by omega) (by omega)]
  · rw [e, hand, has_u64]; omega
theorem num_fill {n i : Int} {out : List Int} (h0 : 0 ≤ n) (h1 : n < 18446744073709551616) (hi : 0 ≤ i) (hl : i < out.length) :
    numI i.toNat (Int.fdiv n 256).toNat ++ (out.set i.toNat (IntKind.u8.wrap (bitsOp .and .u64 n 255))).drop i.toNat = numI (i + 1).toNat n.toNat ++ out.drop (i + 1).toNat := by
  rw [low_byte h0 h1, show (i + 1).toNat = i.toNat + 1 by omega, numI_succ]
  have hd : (Int.fdiv n 256).toNat = n.toNat / 256 := by
    rw [Int.fdiv_eq_ediv_of_nonneg _ (by omega)]; omega
  rw [hd, List.append_assoc, List.drop_set, if_neg (by omega), Nat.sub_self]
  congr 1
  have hlt : i.toNat < out.length := by omega
  rw [List.drop_eq_getElem_cons hlt]
  rfl

def num4 (n : Int) : List UInt8 := numB 4 n.toNat
def pairB (p : (Int × Int) × (Int × Int)) : List UInt8 := num4 p.1.1 ++ num4 p.1.2 ++ (num4 p.2.1 ++ num4 p.2.2)
def big4 (s : List UInt8) : Int := (bigN (s.take 4) : Nat)
def readF (s : List UInt8) : ((Int × Int) × (Int × Int)) × List UInt8 × Int :=
  bif decide ((s.length : Int) < 16) then (((0, 0), (0, 0)), [], 2) else (((big4 s, big4 (s.drop 4)), (big4 (s.drop 8), big4 (s.drop 12))), s.drop 16, 0)

theorem numF4 (n : Int) : numF n 4 = num4 n := rfl
theorem num4_len (n : Int) : (num4 n).length = 4 := numB_len 4 _
theorem takeF4 {s : List UInt8} (h : 4 ≤ s.length) : takeF s 4 = (big4 s, s.drop 4, 0) := by
  have h1 : decide ((s.length : Int) < 4) = false := by simp; omega
  unfold takeF
  rw [h1]
  rfl
theorem big4_lt (s : List UInt8) : 0 ≤ big4 s ∧ big4 s ≤ 4294967295 := by
  unfold big4
  have := bigN_lt (s.take 4)
  have h : (256 : Nat) ^ (s.take 4).length ≤ 256 ^ 4 := Nat.pow_le_pow_right (by omega) (by simp; omega)
  have h' : (256 : Nat) ^ 4 = 4294967296 := by decide
  omega
theorem big4_u32 (s : List UInt8) : IntKind.u32.wrap (big4 s) = big4 s := u32_id (big4_lt s).1 (big4_lt s).2
end Go.Ev
/- The functions of 'epoch' and 'pack' keep their contracts. -/
set_option linter.unusedVariables false
set_option linter.unusedSimpArgs false
namespace Go.Ev.Z
open Go.Proofs

def newerC : Ctr := { args := [gE, gE], res := [.bool], pre := none, fn := fun (x : (Int × Int) × (Int × Int)) => newerF x.1 x.2 }
def nextC : Ctr := { args := [gE], res := [gE, .int .i64], pre := none, fn := fun (x : Int × Int) => nextF x }
def noneC : Ctr := { args := [gE], res := [.bool], pre := none, fn := fun (x : Int × Int) => noneF x }
def swapC : Ctr := { args := [gPair], res := [gPair], pre := none, fn := fun (x : (Int × Int) × (Int × Int)) => swapF x }
def sameC : Ctr := { args := [gPair, gPair], res := [.bool], pre := none, fn := fun (x : ((Int × Int) × (Int × Int)) × ((Int × Int) × (Int × Int))) => sameF x.1 x.2 }

theorem newer_tree : (fun x : dens newerC.args => evFn (mkC tys [] []) (fnOf Tryz.prog 73) (resL newerC.args x) newerC.res) = (fun x => Tree.br (x.1.1 != x.2.1) (Tree.leaf (decide (x.1.1 > x.2.1))) (Tree.leaf (decide (x.1.2 > x.2.2)))) := by kernel_rfl
theorem newer_ok : CtrOK Tryz.prog 73 newerC :=
  fun_ok (G := []) (Λ := []) tysOK ctrs_nil mixed (by kernel_rfl) (by kernel_rfl) (by kernel_rfl) (by kernel_rfl) (by simp) fun x _ _ => by
    rw [congrFun newer_tree x]
    simp only [Tree.holds, newerC, newerF]
    exact ⟨fun h => by rw [h]; rfl, fun h => by rw [h]; rfl⟩
theorem next_tree : (fun x : dens nextC.args => evFn (mkC tys [] []) (fnOf Tryz.prog 36) (resL nextC.args x) nextC.res) = (fun x => Tree.br (x.2 == (4294967295 : Int)) (Tree.leaf (((0 : Int), (0 : Int)), (11 : Int))) (Tree.leaf ((x.1, IntKind.wrap IntKind.u32 (x.2 + (1 : Int))), (0 : Int)))) := by kernel_rfl
theorem next_ok : CtrOK Tryz.prog 36 nextC :=
  fun_ok (G := []) (Λ := []) tysOK ctrs_nil mixed (by kernel_rfl) (by kernel_rfl) (by kernel_rfl) (by kernel_rfl) (by simp) fun (x : Int × Int) hw _ => by
    rw [congrFun next_tree x]
    simp only [Tree.holds, nextC, nextF]
    refine ⟨fun h => by rw [h]; rfl, fun h => ?_⟩
    have h2 : IntKind.u32.has x.2 := hw.2
    rw [has_u32] at h2
    have h3 : x.2 ≠ 4294967295 := by simpa using h
    rw [h, u32_id (by omega) (by omega)]
    rfl
theorem none_tree : (fun x : dens noneC.args => evFn (mkC tys [] []) (fnOf Tryz.prog 4) (resL noneC.args x) noneC.res) = (fun x => Tree.leaf (geq (GTy.prod (GTy.int IntKind.u32) (GTy.int IntKind.u32)) x ((0 : Int), (0 : Int)))) := by kernel_rfl
theorem none_ok : CtrOK Tryz.prog 4 noneC :=
  fun_ok (G := []) (Λ := []) tysOK ctrs_nil mixed (by kernel_rfl) (by kernel_rfl) (by kernel_rfl) (by kernel_rfl) (by simp) fun x hw _ => by
    rw [congrFun none_tree x]
    rfl
theorem swap_tree : (fun x : dens swapC.args => evFn (mkC tys [] []) (fnOf Tryz.prog 44) (resL swapC.args x) swapC.res) = (fun x => Tree.leaf (x.2, x.1)) := by kernel_rfl
theorem swap_ok : CtrOK Tryz.prog 44 swapC :=
  fun_ok (G := []) (Λ := []) tysOK ctrs_nil mixed (by kernel_rfl) (by kernel_rfl) (by kernel_rfl) (by kernel_rfl) (by simp) fun x hw _ => by
    rw [congrFun swap_tree x]
    rfl
theorem same_tree : (fun x : dens sameC.args => evFn (mkC tys [(4, noneC), (44, swapC)] []) (fnOf Tryz.prog 24) (resL sameC.args x) sameC.res) = (fun x => Tree.leaf (bif bif geq (GTy.prod (GTy.prod (GTy.int IntKind.u32) (GTy.int IntKind.u32)) (GTy.prod (GTy.int IntKind.u32) (GTy.int IntKind.u32))) x.1 (swapF x.2) then !noneF x.1.1 else false then !noneF x.1.2 else false)) := by kernel_rfl
theorem same_ok : CtrOK Tryz.prog 24 sameC :=
  fun_ok (Λ := []) tysOK (ctrs_cons none_ok (ctrs_cons swap_ok ctrs_nil)) mixed (by kernel_rfl) (by kernel_rfl) (by kernel_rfl) (by kernel_rfl) (by simp) fun x hw _ => by
    rw [congrFun same_tree x]
    simp only [Tree.holds, sameC, sameF]
    cases geq gPair x.1 (swapF x.2) <;> cases noneF x.1.1 <;> rfl
end Go.Ev.Z
/- The functions of 'pack' keep their contracts. -/
set_option linter.unusedVariables false
set_option linter.unusedSimpArgs false
namespace Go.Ev.Z
open Go.Proofs

def takeC : Ctr := { args := [.str, .int .i64], res := [.int .u64, .str, .int .i64], pre := none, fn := fun (x : List UInt8 × Int) => takeF x.1 x.2 }
def takeD : LoopD where
  prom := []
  ts := [(0, .val .str), (7, .val (.int .u64)), (19, .val (.int .i64)), (20, .val (.int .i64))]
  bs := []
  pre := fun (x : (List UInt8 × Int × Int × Int × Unit) × Unit) => 0 ≤ x.1.2.2.2.1 ∧ x.1.2.2.2.1 ≤ x.1.2.2.1 ∧ x.1.2.2.1 ≤ x.1.1.length ∧ x.1.2.2.1 ≤ 8 ∧ x.1.2.1 = bigN (x.1.1.take x.1.2.2.2.1.toNat)
  out := fun (x : (List UInt8 × Int × Int × Int × Unit) × Unit) => .leaf (.exit 0, ((x.1.1, (bigN (x.1.1.take x.1.2.2.1.toNat) : Int), x.1.2.2.1, x.1.2.2.1, ()), ()))
theorem take_round : (fun x : (List UInt8 × Int × Int × Int × Unit) × Unit => roundOf (mkC tys [] [(0, takeD.spec)]) takeD (loopB 0 (bodyOf (fnOf Tryz.prog 60))) x) = (fun x => Tree.br (decide (x.1.2.2.2.1 < x.1.2.2.1)) (Tree.need ((0 : Int) ≤ x.1.2.2.2.1 ∧ x.1.2.2.2.1 < (↑(List.length x.1.1) : Int)) (Tree.leaf (Ex.normal, some ((x.1.1, bitsOp BinOp.or IntKind.u64 (IntKind.wrap IntKind.u64 (x.1.2.1 * (256 : Int))) (IntKind.wrap IntKind.u64 (↑(UInt8.toNat (List.getD x.1.1 (Int.toNat x.1.2.2.2.1) (0 : UInt8))) : Int)), x.1.2.2.1, IntKind.wrap IntKind.i64 (x.1.2.2.2.1 + (1 : Int)), ()), ())))) (Tree.leaf (Ex.exit (0 : Nat), some ((x.1.1, x.1.2.1, x.1.2.2.1, x.1.2.2.2.1, ()), ())))) := by kernel_rfl
theorem take_loop : LoopOK (mkC tys [] [(0, takeD.spec)]) takeD.spec (loopB 0 (bodyOf (fnOf Tryz.prog 60))) :=
  loopD_ok1 (fun _ => rfl) (fun x => congrFun take_round x) (fun (x : (List UInt8 × Int × Int × Int × Unit) × Unit) => (x.1.2.2.1 - x.1.2.2.2.1).toNat) fun (x : (List UInt8 × Int × Int × Int × Unit) × Unit) hp => by
    obtain ⟨⟨s, n, m, i, ⟨⟩⟩, ⟨⟩⟩ := x
    obtain ⟨h1, h2, h3, h4, h5⟩ := hp
    simp only at h1 h2 h3 h4 h5
    subst h5
    simp only [Tree.holds]
    refine ⟨fun h => ?_, fun h => ?_⟩
    · have h' : i < m := by simpa using h
      have e : IntKind.i64.wrap (i + 1) = i + 1 := i64_id (by omega) (by omega)
      refine ⟨⟨h1, by omega⟩, _, rfl, ⟨?_, ?_, h3, h4, ?_⟩, ?_, rfl⟩
      · show 0 ≤ IntKind.i64.wrap (i + 1); omega
      · show IntKind.i64.wrap (i + 1) ≤ m; omega
      · show _ = ((bigN (s.take (IntKind.i64.wrap (i + 1)).toNat) : Nat) : Int)
        rw [e]
        exact take_step h1 (by omega) (by omega)
      · show (m - IntKind.i64.wrap (i + 1)).toNat < (m - i).toNat; omega
    · have h' : ¬ i < m := by simpa using h
      have hm : i = m := by omega
      subst hm
      exact ⟨_, rfl, rfl⟩
theorem take_tree : (fun x : List UInt8 × Int => evFn (mkC tys [] [(0, takeD.spec)]) (fnOf Tryz.prog 60) (resL takeC.args x) takeC.res) = (fun x => Tree.br (bif decide (x.2 < (0 : Int)) then true else decide (x.2 > (8 : Int))) (Tree.leaf ((0 : Int), [], (1 : Int))) (Tree.br (decide ((↑(List.length x.1) : Int) < x.2)) (Tree.leaf ((0 : Int), [], (2 : Int))) (Tree.need ((0 : Int) ≤ (0 : Int) ∧ (0 : Int) ≤ x.2 ∧ x.2 ≤ (↑(List.length x.1) : Int) ∧ x.2 ≤ (8 : Int) ∧ (0 : Int) = (↑(bigN (List.take (Int.toNat (0 : Int)) x.1)) : Int)) (Tree.need ((0 : Int) ≤ x.2 ∧ x.2 ≤ (↑(List.length x.1) : Int)) (Tree.leaf ((↑(bigN (List.take (Int.toNat x.2) x.1)) : Int), List.drop (Int.toNat x.2) x.1, (0 : Int))))))) := by kernel_rfl
theorem take_ok : CtrOK Tryz.prog 60 takeC :=
  fun_ok tysOK ctrs_nil mixed (by kernel_rfl) (by kernel_rfl) (by kernel_rfl) (by kernel_rfl) (lp_cons take_loop lp_nil) fun (x : List UInt8 × Int) hw _ => by
    rw [congrFun take_tree x]
    obtain ⟨s, k⟩ := x
    simp only [Tree.holds, takeC, takeF]
    refine ⟨fun h => by rw [h]; rfl, fun h => ⟨fun h' => by rw [h, h']; rfl, fun h' => ?_⟩⟩
    have h1 : 0 ≤ k ∧ k ≤ 8 := by
      cases hc : decide (k < 0) with
      | true => rw [hc] at h; cases h
      | false => rw [hc] at h; simp at h hc; omega
    have h2 : k ≤ s.length := by simpa using h'
    exact ⟨⟨by omega, h1.1, h2, h1.2, rfl⟩, ⟨h1.1, h2⟩, by rw [h, h']; rfl⟩
def numC : Ctr := { args := [.int .u64, .int .i64], res := [.str], pre := none, fn := fun (x : Int × Int) => numF x.1 x.2 }
def numD : LoopD where
  prom := []
  ts := [(0, .val (.int .u64)), (5, .tip 11), (6, .val (.int .i64))]
  bs := [(11, .row 5 (.int .u8) false)]
  pre := fun (x : (Int × Int × Unit) × List Int × Unit) => 0 ≤ x.1.1 ∧ x.1.1 < 18446744073709551616 ∧ -1 ≤ x.1.2.1 ∧ x.1.2.1 < x.2.1.length ∧ x.2.1.length ≤ 8
  out := fun (x : (Int × Int × Unit) × List Int × Unit) =>   .leaf (.exit 0, (((x.1.1.toNat / 256 ^ (x.1.2.1 + 1).toNat : Nat), -1, ()), numI (x.1.2.1 + 1).toNat x.1.1.toNat ++ x.2.1.drop (x.1.2.1 + 1).toNat, ()))
theorem num_round : (fun x : (Int × Int × Unit) × List Int × Unit => roundOf (mkC tys [] [(0, numD.spec)]) numD (loopB 0 (bodyOf (fnOf Tryz.prog 53))) x) = (fun x => Tree.br (decide (x.1.2.1 ≥ (0 : Int))) (Tree.need ((0 : Int) ≤ x.1.2.1 ∧ x.1.2.1 < (↑(List.length x.2.1) : Int)) (Tree.leaf (Ex.normal, some ((Int.fdiv x.1.1 (256 : Int), IntKind.wrap IntKind.i64 (x.1.2.1 - (1 : Int)), ()), List.set x.2.1 (Int.toNat x.1.2.1) (IntKind.wrap IntKind.u8 (bitsOp BinOp.and IntKind.u64 x.1.1 (255 : Int))), ())))) (Tree.leaf (Ex.exit (0 : Nat), some ((x.1.1, x.1.2.1, ()), x.2.1, ())))) := by kernel_rfl
theorem num_loop : LoopOK (mkC tys [] [(0, numD.spec)]) numD.spec (loopB 0 (bodyOf (fnOf Tryz.prog 53))) :=
  loopD_ok1 (fun _ => rfl) (fun x => congrFun num_round x) (fun (x : (Int × Int × Unit) × List Int × Unit) => (x.1.2.1 + 1).toNat) fun (x : (Int × Int × Unit) × List Int × Unit) hp => by
    obtain ⟨⟨n, i, ⟨⟩⟩, out, ⟨⟩⟩ := x
    obtain ⟨h1, h2, h3, h4, h5⟩ := hp
    simp only at h1 h2 h3 h4 h5
    simp only [Tree.holds]
    refine ⟨fun h => ?_, fun h => ?_⟩
    · have h' : 0 ≤ i := by simpa using h
      have e : IntKind.i64.wrap (i - 1) = i - 1 := i64_id (by omega) (by omega)
      have hd : Int.fdiv n 256 = n / 256 := by
        rw [Int.fdiv_eq_ediv_of_nonneg _ (by omega)]
      refine ⟨⟨h', h4⟩, _, rfl, ⟨?_, ?_, ?_, ?_, ?_⟩, ?_, ?_⟩
      · show 0 ≤ Int.fdiv n 256; omega
      · show Int.fdiv n 256 < 18446744073709551616; omega
      · show -1 ≤ IntKind.i64.wrap (i - 1); omega
      · show IntKind.i64.wrap (i - 1) < ((List.set out i.toNat _).length : Int)
        rw [List.length_set]; omega
      · show (List.set out i.toNat _).length ≤ 8
        rw [List.length_set]; exact h5
      · show (IntKind.i64.wrap (i - 1) + 1).toNat < (i + 1).toNat; omega
      · show (Ex.exit 0, (((((Int.fdiv n 256).toNat / 256 ^ (IntKind.i64.wrap (i - 1) + 1).toNat : Nat) : Int), (-1 : Int), ()), numI (IntKind.i64.wrap (i - 1) + 1).toNat _ ++ List.drop (IntKind.i64.wrap (i - 1) + 1).toNat _, ())) = _
        rw [e, show i - 1 + 1 = i by omega, num_fill h1 h2 h' h4, hd, show (n / 256).toNat = n.toNat / 256 by omega, Nat.div_div_eq_div_mul, Nat.mul_comm, ← Nat.pow_succ, show i.toNat.succ = (i + 1).toNat by omega]
    · have h' : i < 0 := by simpa using h
      have hi : i = -1 := by omega
      subst hi
      refine ⟨_, rfl, ?_⟩
      show (Ex.exit 0, ((((n.toNat / 256 ^ 0 : Nat) : Int), (-1 : Int), ()), numI 0 n.toNat ++ List.drop 0 out, ())) = (Ex.exit 0, ((n, (-1 : Int), ()), out, ()))
      rw [Nat.pow_zero, Nat.div_one, List.drop_zero, show ((n.toNat : Nat) : Int) = n by omega]
      rfl
theorem num_tree : (fun x : Int × Int => evFn (mkC tys [] [(0, numD.spec)]) (fnOf Tryz.prog 53) (resL numC.args x) numC.res) = (fun x => Tree.need (((0 : Int) ≤ if (8 : Int) < if x.2 < (0 : Int) then (0 : Int) else x.2 then (8 : Int) else if x.2 < (0 : Int) then (0 : Int) else x.2) ∧ ((if (8 : Int) < if x.2 < (0 : Int) then (0 : Int) else x.2 then (8 : Int) else if x.2 < (0 : Int) then (0 : Int) else x.2) ≤ if (8 : Int) < if x.2 < (0 : Int) then (0 : Int) else x.2 then (8 : Int) else if x.2 < (0 : Int) then (0 : Int) else x.2) ∧ (if (8 : Int) < if x.2 < (0 : Int) then (0 : Int) else x.2 then (8 : Int) else if x.2 < (0 : Int) then (0 : Int) else x.2) * (1 : Int) ≤ (140737488355328 : Int)) (Tree.need ((0 : Int) ≤ x.1 ∧ x.1 < (18446744073709551616 : Int) ∧ (-1 : Int) ≤ IntKind.wrap IntKind.i64 ((if (8 : Int) < if x.2 < (0 : Int) then (0 : Int) else x.2 then (8 : Int) else if x.2 < (0 : Int) then (0 : Int) else x.2) - (1 : Int)) ∧ IntKind.wrap IntKind.i64 ((if (8 : Int) < if x.2 < (0 : Int) then (0 : Int) else x.2 then (8 : Int) else if x.2 < (0 : Int) then (0 : Int) else x.2) - (1 : Int)) < (↑(List.length (List.replicate (Int.toNat (if (8 : Int) < if x.2 < (0 : Int) then (0 : Int) else x.2 then (8 : Int) else if x.2 < (0 : Int) then (0 : Int) else x.2)) (0 : Int))) : Int) ∧ List.length (List.replicate (Int.toNat (if (8 : Int) < if x.2 < (0 : Int) then (0 : Int) else x.2 then (8 : Int) else if x.2 < (0 : Int) then (0 : Int) else x.2)) (0 : Int)) ≤ (8 : Nat)) (Tree.leaf (bytesToStr (numI (Int.toNat (IntKind.wrap IntKind.i64 ((if (8 : Int) < if x.2 < (0 : Int) then (0 : Int) else x.2 then (8 : Int) else if x.2 < (0 : Int) then (0 : Int) else x.2) - (1 : Int)) + (1 : Int))) (Int.toNat x.1) ++ List.drop (Int.toNat (IntKind.wrap IntKind.i64 ((if (8 : Int) < if x.2 < (0 : Int) then (0 : Int) else x.2 then (8 : Int) else if x.2 < (0 : Int) then (0 : Int) else x.2) - (1 : Int)) + (1 : Int))) (List.replicate (Int.toNat (if (8 : Int) < if x.2 < (0 : Int) then (0 : Int) else x.2 then (8 : Int) else if x.2 < (0 : Int) then (0 : Int) else x.2)) (0 : Int))))))) := by kernel_rfl
theorem num_ok : CtrOK Tryz.prog 53 numC :=
  fun_ok tysOK ctrs_nil mixed (by kernel_rfl) (by kernel_rfl) (by kernel_rfl) (by kernel_rfl) (lp_cons num_loop lp_nil) fun (x : Int × Int) hw _ => by
    rw [congrFun num_tree x]
    obtain ⟨n, k⟩ := x
    have h1 : IntKind.u64.has n := hw.1
    rw [has_u64] at h1
    have hk : (if (8 : Int) < if k < 0 then 0 else k then 8 else if k < 0 then 0 else k) = min (max k 0) 8 := by
      by_cases h : k < 0
      · simp only [h, if_true]; rw [if_neg (by omega)]; omega
      · simp only [h, if_false]
        by_cases h8 : 8 < k
        · rw [if_pos h8]; omega
        · rw [if_neg h8]; omega
    simp only [Tree.holds]
    rw [hk]
    have hm : 0 ≤ min (max k 0) 8 ∧ min (max k 0) 8 ≤ 8 := by omega
    simp only [numC, numF]
    generalize min (max k 0) 8 = m at *
    have e : IntKind.i64.wrap (m - 1) = m - 1 := i64_id (by omega) (by omega)
    rw [e, List.length_replicate, show m - 1 + 1 = m by omega]
    refine ⟨⟨hm.1, Int.le_refl _, ?_⟩, ⟨h1.1, by omega, by omega, by omega, by omega⟩, ?_⟩
    · omega
    · rw [List.drop_replicate, Nat.sub_self, List.replicate_zero, List.append_nil, bytesToStr_numI]
end Go.Ev.Z
/- 'epoch.Bytes' and 'epoch.Read' keep their contracts. -/
set_option linter.unusedVariables false
set_option linter.unusedSimpArgs false
namespace Go.Ev.Z
open Go.Proofs

def bytesC : Ctr := { args := [gPair], res := [.str], pre := none, fn := fun (x : (Int × Int) × (Int × Int)) => pairB x }
def bytesG : List (Nat × Ctr) := [(53, numC)]
noncomputable def bytesL : List (Nat × LoopSpec) := [(0, rounds (mkC tys bytesG []) (loopB 0 (bodyOf (fnOf Tryz.prog 96))) [] [3, 10, 11] [] 3)]
theorem bytes_tree : (fun x : (Int × Int) × (Int × Int) => evFn (mkC tys bytesG bytesL) (fnOf Tryz.prog 96) (resL bytesC.args x) bytesC.res) = (fun x => Tree.br true (Tree.need ((0 : Int) ≤ (0 : Int) ∧ (0 : Int) < (2 : Int)) (Tree.need (List.length (numF (IntKind.wrap IntKind.u64 x.1.1) (4 : Int)) + List.length (numF (IntKind.wrap IntKind.u64 x.1.2) (4 : Int)) ≤ (4611686018427387904 : Nat)) (Tree.need ((0 : Nat) + List.length (numF (IntKind.wrap IntKind.u64 x.1.1) (4 : Int) ++ numF (IntKind.wrap IntKind.u64 x.1.2) (4 : Int)) ≤ (4611686018427387904 : Nat)) (Tree.br true (Tree.need ((0 : Int) ≤ (1 : Int) ∧ (1 : Int) < (2 : Int)) (Tree.need (List.length (numF (IntKind.wrap IntKind.u64 x.2.1) (4 : Int)) + List.length (numF (IntKind.wrap IntKind.u64 x.2.2) (4 : Int)) ≤ (4611686018427387904 : Nat)) (Tree.need (List.length ([] ++ (numF (IntKind.wrap IntKind.u64 x.1.1) (4 : Int) ++ numF (IntKind.wrap IntKind.u64 x.1.2) (4 : Int))) + List.length (numF (IntKind.wrap IntKind.u64 x.2.1) (4 : Int) ++ numF (IntKind.wrap IntKind.u64 x.2.2) (4 : Int)) ≤ (4611686018427387904 : Nat)) (Tree.br false (Tree.need ((0 : Int) ≤ (2 : Int) ∧ (2 : Int) < (2 : Int)) (Tree.need (List.length (numF (IntKind.wrap IntKind.u64 (List.getD [x.1, x.2] (2 : Nat) ((0 : Int), (0 : Int))).1) (4 : Int)) + List.length (numF (IntKind.wrap IntKind.u64 (List.getD [x.1, x.2] (2 : Nat) ((0 : Int), (0 : Int))).2) (4 : Int)) ≤ (4611686018427387904 : Nat)) (Tree.need (List.length ([] ++ (numF (IntKind.wrap IntKind.u64 x.1.1) (4 : Int) ++ numF (IntKind.wrap IntKind.u64 x.1.2) (4 : Int)) ++ (numF (IntKind.wrap IntKind.u64 x.2.1) (4 : Int) ++ numF (IntKind.wrap IntKind.u64 x.2.2) (4 : Int))) + List.length (numF (IntKind.wrap IntKind.u64 (List.getD [x.1, x.2] (2 : Nat) ((0 : Int), (0 : Int))).1) (4 : Int) ++ numF (IntKind.wrap IntKind.u64 (List.getD [x.1, x.2] (2 : Nat) ((0 : Int), (0 : Int))).2) (4 : Int)) ≤ (4611686018427387904 : Nat)) Tree.stuck))) (Tree.leaf ([] ++ (numF (IntKind.wrap IntKind.u64 x.1.1) (4 : Int) ++ numF (IntKind.wrap IntKind.u64 x.1.2) (4 : Int)) ++ (numF (IntKind.wrap IntKind.u64 x.2.1) (4 : Int) ++ numF (IntKind.wrap IntKind.u64 x.2.2) (4 : Int)))))))) (Tree.leaf ([] ++ (numF (IntKind.wrap IntKind.u64 x.1.1) (4 : Int) ++ numF (IntKind.wrap IntKind.u64 x.1.2) (4 : Int)))))))) (Tree.leaf [])) := by kernel_rfl
theorem bytes_ok : CtrOK Tryz.prog 96 bytesC :=
  fun_ok (G := bytesG) (Λ := bytesL) tysOK (ctrs_cons num_ok ctrs_nil) mixed (by kernel_rfl) (by kernel_rfl) (by kernel_rfl) (by kernel_rfl) (lp_cons (rounds_ok0 rfl rfl rfl (by kernel_rfl)) lp_nil) fun (x : (Int × Int) × (Int × Int)) hw _ => by
    rw [congrFun bytes_tree x]
    obtain ⟨⟨a, b⟩, ⟨c, d⟩⟩ := x
    obtain ⟨⟨ha, hb⟩, ⟨hc, hd⟩⟩ := hw
    simp only [wt, has_u32] at ha hb hc hd
    have ea : IntKind.u64.wrap a = a := u64_id (by omega) (by omega)
    have eb : IntKind.u64.wrap b = b := u64_id (by omega) (by omega)
    have ec : IntKind.u64.wrap c = c := u64_id (by omega) (by omega)
    have ed : IntKind.u64.wrap d = d := u64_id (by omega) (by omega)
    simp [Tree.holds, ea, eb, ec, ed, numF4, num4_len, bytesC, pairB]

def readC : Ctr := { args := [.str], res := [gPair, .str, .int .i64], pre := none, fn := fun (x : List UInt8) => readF x }
def readG : List (Nat × Ctr) := [(60, takeC)]
noncomputable def readL : List (Nat × LoopSpec) := [(0, rounds (mkC tys readG []) (loopB 0 (bodyOf (fnOf Tryz.prog 59))) [] [0, 2, 3, 4, 5, 16] [2, 5] 5)]
theorem read_tree : (fun x : List UInt8 => evFn (mkC tys readG readL) (fnOf Tryz.prog 59) (resL readC.args x) readC.res) = (fun x => Tree.br (decide ((↑(List.length x) : Int) < (16 : Int))) (Tree.leaf ((((0 : Int), (0 : Int)), (0 : Int), (0 : Int)), [], (2 : Int))) (Tree.br true (Tree.br ((takeF x (4 : Int)).2.2 != (0 : Int)) (Tree.leaf ((((0 : Int), (0 : Int)), (0 : Int), (0 : Int)), [], (takeF x (4 : Int)).2.2)) (Tree.need ((0 : Int) ≤ (0 : Int) ∧ (0 : Int) < (4 : Int)) (Tree.br true (Tree.br ((takeF (takeF x (4 : Int)).2.1 (4 : Int)).2.2 != (0 : Int)) (Tree.leaf ((((0 : Int), (0 : Int)), (0 : Int), (0 : Int)), [], (takeF (takeF x (4 : Int)).2.1 (4 : Int)).2.2)) (Tree.need ((0 : Int) ≤ (1 : Int) ∧ (1 : Int) < (4 : Int)) (Tree.br true (Tree.br ((takeF (takeF (takeF x (4 : Int)).2.1 (4 : Int)).2.1 (4 : Int)).2.2 != (0 : Int)) (Tree.leaf ((((0 : Int), (0 : Int)), (0 : Int), (0 : Int)), [], (takeF (takeF (takeF x (4 : Int)).2.1 (4 : Int)).2.1 (4 : Int)).2.2)) (Tree.need ((0 : Int) ≤ (2 : Int) ∧ (2 : Int) < (4 : Int)) (Tree.br true (Tree.br ((takeF (takeF (takeF (takeF x (4 : Int)).2.1 (4 : Int)).2.1 (4 : Int)).2.1 (4 : Int)).2.2 != (0 : Int)) (Tree.leaf ((((0 : Int), (0 : Int)), (0 : Int), (0 : Int)), [], (takeF (takeF (takeF (takeF x (4 : Int)).2.1 (4 : Int)).2.1 (4 : Int)).2.1 (4 : Int)).2.2)) (Tree.need ((0 : Int) ≤ (3 : Int) ∧ (3 : Int) < (4 : Int)) (Tree.br false (Tree.br ((takeF (takeF (takeF (takeF (takeF x (4 : Int)).2.1 (4 : Int)).2.1 (4 : Int)).2.1 (4 : Int)).2.1 (4 : Int)).2.2 != (0 : Int)) (Tree.leaf ((((0 : Int), (0 : Int)), (0 : Int), (0 : Int)), [], (takeF (takeF (takeF (takeF (takeF x (4 : Int)).2.1 (4 : Int)).2.1 (4 : Int)).2.1 (4 : Int)).2.1 (4 : Int)).2.2)) (Tree.need ((0 : Int) ≤ (4 : Int) ∧ (4 : Int) < (4 : Int)) Tree.stuck)) (Tree.leaf (((IntKind.wrap IntKind.u32 (takeF x (4 : Int)).1, IntKind.wrap IntKind.u32 (takeF (takeF x (4 : Int)).2.1 (4 : Int)).1), IntKind.wrap IntKind.u32 (takeF (takeF (takeF x (4 : Int)).2.1 (4 : Int)).2.1 (4 : Int)).1, IntKind.wrap IntKind.u32 (takeF (takeF (takeF (takeF x (4 : Int)).2.1 (4 : Int)).2.1 (4 : Int)).2.1 (4 : Int)).1), (takeF (takeF (takeF (takeF x (4 : Int)).2.1 (4 : Int)).2.1 (4 : Int)).2.1 (4 : Int)).2.1, (0 : Int)))))) (Tree.leaf (((IntKind.wrap IntKind.u32 (takeF x (4 : Int)).1, IntKind.wrap IntKind.u32 (takeF (takeF x (4 : Int)).2.1 (4 : Int)).1), IntKind.wrap IntKind.u32 (takeF (takeF (takeF x (4 : Int)).2.1 (4 : Int)).2.1 (4 : Int)).1, (0 : Int)), (takeF (takeF (takeF x (4 : Int)).2.1 (4 : Int)).2.1 (4 : Int)).2.1, (0 : Int)))))) (Tree.leaf (((IntKind.wrap IntKind.u32 (takeF x (4 : Int)).1, IntKind.wrap IntKind.u32 (takeF (takeF x (4 : Int)).2.1 (4 : Int)).1), (0 : Int), (0 : Int)), (takeF (takeF x (4 : Int)).2.1 (4 : Int)).2.1, (0 : Int)))))) (Tree.leaf (((IntKind.wrap IntKind.u32 (takeF x (4 : Int)).1, (0 : Int)), (0 : Int), (0 : Int)), (takeF x (4 : Int)).2.1, (0 : Int)))))) (Tree.leaf ((((0 : Int), (0 : Int)), (0 : Int), (0 : Int)), x, (0 : Int))))) := by kernel_rfl
theorem read_ok : CtrOK Tryz.prog 59 readC :=
  fun_ok (G := readG) (Λ := readL) tysOK (ctrs_cons take_ok ctrs_nil) mixed (by kernel_rfl) (by kernel_rfl) (by kernel_rfl) (by kernel_rfl) (lp_cons (rounds_ok0 rfl rfl rfl (by kernel_rfl)) lp_nil) fun (x : List UInt8) hw _ => by
    rw [congrFun read_tree x]
    simp only [readC, readF]
    by_cases h : (x.length : Int) < 16
    · have h' : decide ((x.length : Int) < 16) = true := by simpa using h
      simp only [Tree.holds, h']
      simp
    · have h' : decide ((x.length : Int) < 16) = false := by simpa using h
      have t0 := takeF4 (s := x) (by omega)
      have t1 := takeF4 (s := x.drop 4) (by rw [List.length_drop]; omega)
      have t2 := takeF4 (s := x.drop 8) (by rw [List.length_drop]; omega)
      have t3 := takeF4 (s := x.drop 12) (by rw [List.length_drop]; omega)
      simp only [List.drop_drop, Nat.reduceAdd] at t1 t2 t3
      simp [Tree.holds, h', t0, t1, t2, t3, big4_u32]
end Go.Ev.Z
/- The laws of epochs, plainly. -/
set_option linter.unusedVariables false
namespace Go.Ev

theorem newerF_eq (a b : Int × Int) : newerF a b = decide (a.1 > b.1 ∨ a.1 = b.1 ∧ a.2 > b.2) := by
  unfold newerF
  by_cases h : a.1 = b.1
  · simp [h]
  · have : (a.1 != b.1) = true := by simpa using h
    rw [this]
    simp [h]
theorem geqE (a b : Int × Int) : geq gE a b = decide (a.1 = b.1 ∧ a.2 = b.2) := by
  simp [geq, Bool.decide_and]
  rfl
theorem big_num4 {n : Int} (h : 0 ≤ n ∧ n ≤ 4294967295) (l : List UInt8) : big4 (num4 n ++ l) = n := by
  unfold big4 num4
  rw [List.take_left' (numB_len 4 _), bigN_num]
  have h' : (256 : Nat) ^ 4 = 4294967296 := by decide
  omega
theorem read_pair {p : (Int × Int) × (Int × Int)} (h : wt gPair p) (s : List UInt8) : readF (pairB p ++ s) = (p, s, 0) := by
  obtain ⟨⟨a, b⟩, ⟨c, d⟩⟩ := p
  obtain ⟨⟨ha, hb⟩, ⟨hc, hd⟩⟩ := h
  simp only [wt, has_u32] at ha hb hc hd
  unfold readF pairB
  have hl : decide (((num4 a ++ num4 b ++ (num4 c ++ num4 d) ++ s).length : Int) < 16) = false := by
    simp only [List.length_append, num4_len]
    simp
    omega
  have h4 : ∀ (n : Int) (l : List UInt8), (num4 n ++ l).drop 4 = l := fun n l => List.drop_left' (num4_len n)
  have d4 : (num4 a ++ (num4 b ++ (num4 c ++ (num4 d ++ s)))).drop 4 = num4 b ++ (num4 c ++ (num4 d ++ s)) := h4 _ _
  have d8 : (num4 a ++ (num4 b ++ (num4 c ++ (num4 d ++ s)))).drop 8 = num4 c ++ (num4 d ++ s) := by
    rw [show (8 : Nat) = 4 + 4 from rfl, ← List.drop_drop, h4, h4]
  have d12 : (num4 a ++ (num4 b ++ (num4 c ++ (num4 d ++ s)))).drop 12 = num4 d ++ s := by
    rw [show (12 : Nat) = 8 + 4 from rfl, ← List.drop_drop, d8, h4]
  have d16 : (num4 a ++ (num4 b ++ (num4 c ++ (num4 d ++ s)))).drop 16 = s := by
    rw [show (16 : Nat) = 12 + 4 from rfl, ← List.drop_drop, d12, h4]
  rw [hl]
  simp only [List.append_assoc, cond_false]
  rw [d4, d8, d12, d16, big_num4 ha, big_num4 hb, big_num4 hc, big_num4 hd]
theorem geqPair (p q : (Int × Int) × (Int × Int)) : geq gPair p q = decide (p = q) := by
  obtain ⟨⟨a, b⟩, ⟨c, d⟩⟩ := p
  obtain ⟨⟨a', b'⟩, ⟨c', d'⟩⟩ := q
  simp only [geq]
  rw [Bool.eq_iff_iff]
  simp [and_assoc]
theorem pairB_len (p : (Int × Int) × (Int × Int)) : (pairB p).length = 16 := by simp [pairB, num4_len]
end Go.Ev
/- The laws of 'epoch' answer true. -/
set_option linter.unusedVariables false
set_option linter.unusedSimpArgs false
namespace Go.Ev.Z
open Go.Proofs

end Go.Ev.Z
/- Parcels, and by whom they go, plainly. -/
set_option linter.unusedVariables false
namespace Go.Ev

abbrev DPair := (Int × Int) × (Int × Int)
def rightF (n : Int) : Bool := bif decide (n ≥ 0) then decide (n < 16) else false
theorem rightF_iff {n : Int} : rightF n = true ↔ 0 ≤ n ∧ n < 16 := by
  unfold rightF
  cases h : decide (n ≥ 0) <;> simp at h ⊢ <;> omega
end Go.Ev
/- What goes on, plainly. -/
set_option linter.unusedVariables false
namespace Go.Ev

end Go.Ev
/- The functions of 'fwd' and what they call keep their contracts. -/
set_option linter.unusedVariables false
set_option linter.unusedSimpArgs false
namespace Go.Ev.Z
open Go.Proofs
def rightC : Ctr := { args := [.int .i64], res := [.bool], pre := none, fn := fun (x : Int) => rightF x }
def rightG : List (Nat × Ctr) := []
theorem right_tree : (fun x : Int => evFn (mkC tys rightG []) (fnOf Tryz.prog 58) (resL rightC.args x) rightC.res) = (fun x => Tree.leaf (bif decide (x ≥ (0 : Int)) then decide (x < (16 : Int)) else false)) := by kernel_rfl
theorem right_ok : CtrOK Tryz.prog 58 rightC :=
  fun_ok (G := rightG) (Λ := []) tysOK ctrs_nil mixed (by kernel_rfl) (by kernel_rfl) (by kernel_rfl) (by kernel_rfl) lp_nil fun (x : Int) hw _ => by
    rw [congrFun right_tree x]
    exact holds_val (d := rightC.fn x) (by kernel_rfl) (by simp [Tree.safe])
end Go.Ev.Z
/- Nodes, costs and configurations, plainly. -/
set_option linter.unusedVariables false
namespace Go.Ev

abbrev gRules : GTy := .prod (.int .i64) (.prod (.int .i64) (.prod (.int .i64) (.int .i64)))
abbrev DRules := Int × Int × Int × Int
end Go.Ev
/- The functions of 'nodes', 'costs', 'valid' keep their contracts. -/
set_option linter.unusedVariables false
set_option linter.unusedSimpArgs false
namespace Go.Ev.Z
open Go.Proofs
end Go.Ev.Z
/- Sound costs, and configurations that may be, plainly. -/
set_option linter.unusedVariables false
set_option linter.unusedSimpArgs false
namespace Go.Ev
end Go.Ev
/- Frames and sums, in plain Lean. -/
set_option linter.unusedVariables false
set_option linter.unusedSimpArgs false
namespace Go.Ev
def addB (p : Int × Int) (x : UInt8) : Int × Int :=
  (Int.tmod (IntKind.wrap IntKind.u32 (p.1 + Int.tmod (IntKind.wrap IntKind.u32 (p.2 + IntKind.wrap IntKind.u32 (x.toNat : Int))) (65521 : Int))) (65521 : Int),
    Int.tmod (IntKind.wrap IntKind.u32 (p.2 + IntKind.wrap IntKind.u32 (x.toNat : Int))) (65521 : Int))
def addAll : Int × Int → List UInt8 → Int × Int
  | p, [] => p
  | p, x :: s => addAll (addB p x) s
def startS (n : Int) : Int × Int := (Int.tmod (Int.fdiv n (65536 : Int)) (65521 : Int), Int.tmod (bitsOp BinOp.and IntKind.u32 n (65535 : Int)) (65521 : Int))
def tellS (p : Int × Int) : Int := bitsOp BinOp.or IntKind.u32 (IntKind.wrap IntKind.u32 (p.1 * (65536 : Int))) p.2
def moreF (n : Int) (s : List UInt8) : Int := tellS (addAll (startS n) s)
def sumF (s : List UInt8) : Int := moreF 1 s
def kindF (n : Int) : List UInt8 :=
  bif n == (1 : Int) then [104, 101, 108, 108, 111] else bif n == (2 : Int) then [112, 97, 114, 116] else bif n == (3 : Int) then [97, 99, 107] else bif n == (4 : Int) then [112, 97, 114, 99, 101, 108] else []
def sealF (s : List UInt8) : List UInt8 := s ++ numF (IntKind.wrap IntKind.u64 (sumF s)) 4
def wrapF (k : Int) (s : List UInt8) : List UInt8 × Int := bif bif bif decide (k < 1) then true else decide (k > 4) then true else decide ((s.length : Int) > 250) then ([], 1) else (sealF ((([70] : List UInt8) ++ numF (IntKind.wrap IntKind.u64 k) 1) ++ s), 0)
theorem numF_len4 (n : Int) : (numF n 4).length = 4 := numB_len 4 _
theorem numF_len1 (n : Int) : (numF n 1).length = 1 := numB_len 1 _
def unsealF (s : List UInt8) : List UInt8 × Int :=
  bif decide ((s.length : Int) < 4) then ([], 2) else
    bif IntKind.wrap IntKind.u64 (sumF (s.take (s.length - 4))) != (bigN (s.drop (s.length - 4)) : Int) then ([], 5) else (s.take (s.length - 4), 0)
def openF (s : List UInt8) : Int × List UInt8 × Int :=
  bif decide ((s.length : Int) > 256) then (0, [], 4) else
    bif (unsealF s).2 != 0 then (0, [], (unsealF s).2) else
      bif decide (((unsealF s).1.length : Int) < 2) then (0, [], 2) else
        bif bif bif (((unsealF s).1.getD 0 0).toNat : Int) != 70 then true else decide ((((unsealF s).1.getD 1 0).toNat : Int) < 1) then true else decide ((((unsealF s).1.getD 1 0).toNat : Int) > 4) then (0, [], 3) else
          (IntKind.wrap IntKind.i64 (((unsealF s).1.getD 1 0).toNat : Int), (unsealF s).1.drop 2, 0)
end Go.Ev
/- The functions of 'frame' and 'check' that the evaluator tells. -/
set_option linter.unusedVariables false
set_option linter.unusedSimpArgs false
namespace Go.Ev.Z
open Go.Proofs
def kindC : Ctr := { args := [.int .i64], res := [.str], pre := none, fn := fun (x : Int) => kindF x }
theorem kind_tree : (fun x : Int => evFn (mkC tys [] []) (fnOf Tryz.prog 56) (resL kindC.args x) kindC.res) = (fun x => Tree.br (x == (1 : Int)) (Tree.leaf [(104 : UInt8), (101 : UInt8), (108 : UInt8), (108 : UInt8), (111 : UInt8)]) (Tree.br (x == (2 : Int)) (Tree.leaf [(112 : UInt8), (97 : UInt8), (114 : UInt8), (116 : UInt8)]) (Tree.br (x == (3 : Int)) (Tree.leaf [(97 : UInt8), (99 : UInt8), (107 : UInt8)]) (Tree.br (x == (4 : Int)) (Tree.leaf [(112 : UInt8), (97 : UInt8), (114 : UInt8), (99 : UInt8), (101 : UInt8), (108 : UInt8)]) (Tree.leaf []))))) := by kernel_rfl
theorem kind_ok : CtrOK Tryz.prog 56 kindC :=
  fun_ok (G := []) (Λ := []) tysOK ctrs_nil mixed (by kernel_rfl) (by kernel_rfl) (by kernel_rfl) (by kernel_rfl) lp_nil fun (x : Int) hw _ => by
    rw [congrFun kind_tree x]
    simp only [Tree.holds, kindC, kindF]
    refine ⟨fun h => by rw [h]; rfl, fun h => ⟨fun h2 => by rw [h, h2]; rfl, fun h2 => ⟨fun h3 => by rw [h, h2, h3]; rfl, fun h3 => ⟨fun h4 => by rw [h, h2, h3, h4]; rfl, fun h4 => by rw [h, h2, h3, h4]; rfl⟩⟩⟩⟩
end Go.Ev.Z
/- The reference's numbers and frames. -/
set_option linter.unusedVariables false
set_option linter.unusedSimpArgs false
namespace Go.Ev.Z
open Go.Proofs
end Go.Ev.Z
/- Frames opened. -/
set_option linter.unusedVariables false
set_option linter.unusedSimpArgs false
namespace Go.Ev.Z
open Go.Proofs
end Go.Ev.Z
