/- A channel with room, used by one goroutine alone: the pieces of code beside it are told by the evaluator. -/
import Derived.Conc.LoneCalls
import Derived.Conc.SmallLaws
import Derived.Test.YtfahhljpjdoagaaGreatTextLinkMeets4

set_option linter.unusedVariables false
set_option linter.unusedSimpArgs false
namespace Go.Ev
open Go.Conc

section
variable {P : Program} {C : Ctx} {b : Frame}
def CodeTo (P : Program) (b : Frame) (c : Code) (Q : Exit → Act → World → Prop) (a : Act) (w : World) : Prop :=
  ∀ (k : List Item) (cs : List Frame), ∃ e a' w', Q e a' w' ∧ Arrives P (lone (b.at a (.code c :: k)) cs w) b k cs e a' w'
def RegTo (P : Program) (b : Frame) (ops : Array Oper) (l : List Nat) (Q : Exit → Act → World → Prop) (a : Act) (w : World) : Prop :=
  ∀ (k : List Item) (cs : List Frame), ∃ e a' w', Q e a' w' ∧ Arrives P (lone (b.at a (.inRegion ops l :: k)) cs w) b k cs e a' w'

variable {Q : Exit → Act → World → Prop} {a : Act} {w : World} {ops : Array Oper} {l : List Nat}

theorem CodeTo.of_wp {c : Code} (h : c.wp P Q a w) : CodeTo P b c Q a w := fun k cs => h b k cs
theorem CodeTo.mono {c : Code} {Q' : Exit → Act → World → Prop} (h : CodeTo P b c Q a w) (hq : ∀ e a w, Q e a w → Q' e a w) : CodeTo P b c Q' a w := fun k cs =>
  let ⟨e, a', w', h1, h2⟩ := h k cs; ⟨e, a', w', hq _ _ _ h1, h2⟩
theorem CodeTo.cond {c : Operand} {x y : Code} {t : Bool} (hc : a.eval c = .bool t) (h : CodeTo P b (if t then x else y) Q a w) : CodeTo P b (.cond c x y) Q a w := fun k cs =>
  let ⟨e, a', w', q, r⟩ := h k cs; ⟨e, a', w', q, .of_steps (.one (step_cond hc)) r⟩
theorem CodeTo.region {id : Nat} (h : RegTo P b ops (List.range ops.size) Q a w) : CodeTo P b (.region id ops false) Q a w := fun k cs =>
  let ⟨e, a', w', q, r⟩ := h k cs; ⟨e, a', w', q, .of_steps (.one step_region) r⟩
theorem CodeTo.skip (h : Q .normal a w) : CodeTo P b .skip Q a w := CodeTo.of_wp (wp_skip h)
def LTo (P : Program) (b : Frame) : List Code → (Exit → Act → World → Prop) → Act → World → Prop
  | [], Q, a, w => Q .normal a w
  | c :: l, Q, a, w => CodeTo P b c (Exit.then (LTo P b l Q) Q) a w
def seqs : Code → List Code
  | .seq x y => seqs x ++ seqs y
  | c => [c]

theorem CodeTo.seq {x y : Code} (h : CodeTo P b x (Exit.then (CodeTo P b y Q) Q) a w) : CodeTo P b (.seq x y) Q a w := by
  intro k cs
  obtain ⟨e, a₁, w₁, hq, harr⟩ := h (.code y :: k) cs
  cases e with
  | normal =>
    obtain ⟨e, a₂, w₂, hq', harr'⟩ := hq k cs
    exact ⟨e, a₂, w₂, hq', .of_steps (.one step_seq) (.of_steps harr harr')⟩
  | exit id => exact ⟨_, a₁, w₁, hq, .of_steps (.one step_seq) (.pass (x := .code y) rfl (fun _ _ => .inl (by simp)) harr)⟩
  | goto id => exact ⟨_, a₁, w₁, hq, .of_steps (.one step_seq) (.pass (x := .code y) rfl (fun _ _ => .inl (by simp)) harr)⟩
  | ret => exact ⟨_, a₁, w₁, hq, .of_steps (.one step_seq) (.pass (x := .code y) rfl (fun _ _ => .inl (by simp)) harr)⟩
  | panic c => exact ⟨_, a₁, w₁, hq, .of_steps (.one step_seq) (.pass (x := .code y) rfl (fun _ _ => .inl (by simp)) harr)⟩
  | outgrown => exact ⟨_, a₁, w₁, hq, .of_steps (.one step_seq) (.pass (x := .code y) rfl (fun _ _ => .inl (by simp)) harr)⟩

theorem then_id {c : Code} (h : CodeTo P b c (Exit.then (LTo P b [] Q) Q) a w) : CodeTo P b c Q a w := h.mono fun e a w hq => by cases e <;> exact hq
theorem lto_append : ∀ {l r : List Code} {Q : Exit → Act → World → Prop} {a : Act} {w : World}, LTo P b (l ++ r) Q a w → LTo P b l (Exit.then (LTo P b r Q) Q) a w
  | [], _, _, _, _, h => h
  | c :: l, r, Q, a, w, h => CodeTo.mono (c := c) h fun e a' w' hq => by
      cases e with
      | normal => exact lto_append (l := l) hq
      | _ => exact hq
theorem LTo.mono : ∀ {l : List Code} {Q Q' : Exit → Act → World → Prop} {a : Act} {w : World}, LTo P b l Q a w → (∀ e a w, Q e a w → Q' e a w) → LTo P b l Q' a w
  | [], _, _, _, _, h, hq => hq _ _ _ h
  | c :: l, Q, Q', a, w, h, hq => CodeTo.mono (c := c) h fun e a' w' h' => by
      cases e with
      | normal => exact LTo.mono (l := l) h' hq
      | _ => exact hq _ _ _ h'
theorem CodeTo.seqs : ∀ {c : Code} {Q : Exit → Act → World → Prop} {a : Act} {w : World}, LTo P b (Ev.seqs c) Q a w → CodeTo P b c Q a w
  | .seq x y, Q, a, w, h => CodeTo.seq (CodeTo.mono (CodeTo.seqs (c := x) (lto_append h)) fun e a' w' hq => by
      cases e with
      | normal => exact CodeTo.seqs (c := y) hq
      | _ => exact hq)
  | .skip, _, _, _, h | .region .., _, _, _, h | .cond .., _, _, _, h | .block .., _, _, _, h | .loop _, _, _, _, h | .rangeFunc .., _, _, _, h | .exit _, _, _, _, h | .scope _, _, _, _, h | .label _, _, _, _, h | .goto _, _, _, _, h | .ret, _, _, _, h | .refuse _, _, _, _, h => then_id h
def evL (C : Ctx) : List Code → St → Tree (Ex × St)
  | [], s => .leaf (.normal, s)
  | c :: l, s => (ev C c s).bind fun p => match p.1 with
    | .normal => evL C l p.2
    | e => .leaf (e, p.2)

theorem evL_toD (TOK : TysOK P C.τ) (GC : CtrsOK P C.Γ) (hmix : P.follows .mixedOrders = true) (DK : DsOK P C) {R : Ref} {F : Ex × St → Prop} {rest : List Code} : ∀ (l : List Code) (s : St) (a : Act) (w : World), (∀ c ∈ l, LamOK C c) → (∀ c ∈ l, ∀ t ∈ writes c, t < a.tmps.size) → IsSt R s a w → (evL C l s).holds F →
    (∀ z s' a' w', F (z, s') → IsSt R s' a' w' → a'.tmps.size = a.tmps.size → a'.defers = a.defers → (∀ t, (∀ c ∈ l, t ∉ writes c) → a'.tmps.getD t undef = a.tmps.getD t undef) → match z with
      | .normal => LTo P b rest Q a' w'
      | z => Q z.to a' w') → LTo P b (l ++ rest) Q a w
  | [], s, a, w, _, _, hs, hF, hQ => hQ .normal s a w hF hs rfl rfl (fun _ _ => rfl)
  | c :: l, s, a, w, hl, hsz, hs, hF, hQ => by
    have hF' := holds_bind.1 hF
    have := (ev_ok TOK GC DK hmix c (hl c (by simp))).1 R s a w _ hs (hsz c (by simp)) hF'
    refine (CodeTo.of_wp this).mono ?_
    rintro e a1 w1 ⟨z, s1, rfl, h1, h2, h3⟩
    cases z with
    | normal =>
      exact evL_toD TOK GC hmix DK l s1 a1 w1 (fun c' hc' => hl c' (by simp [hc'])) (fun c' hc' t ht => by rw [h3.size]; exact hsz c' (by simp [hc']) t ht) h2 h1
        (fun z s' a' w' f1 f2 f3 f4 f5 => hQ z s' a' w' f1 f2 (f3.trans h3.size) (f4.trans h3.defers) (fun t ht => (f5 t (fun c' hc' => ht c' (by simp [hc']))).trans (h3.tmps t (ht c (by simp)))))
    | exit id => exact hQ (.exit id) s1 a1 w1 h1 h2 h3.size h3.defers (fun t ht => h3.tmps t (ht c (by simp)))
    | ret => exact hQ .ret s1 a1 w1 h1 h2 h3.size h3.defers (fun t ht => h3.tmps t (ht c (by simp)))
    | die v => exact hQ (.die v) s1 a1 w1 h1 h2 h3.size h3.defers (fun t ht => h3.tmps t (ht c (by simp)))

theorem evL_to (TOK : TysOK P C.τ) (GC : CtrsOK P C.Γ) (hmix : P.follows .mixedOrders = true) {R : Ref} {F : Ex × St → Prop} {rest : List Code} (l : List Code) (s : St) (a : Act) (w : World) (hl : ∀ c ∈ l, LamOK C c) (hsz : ∀ c ∈ l, ∀ t ∈ writes c, t < a.tmps.size) (hs : IsSt R s a w) (hF : (evL C l s).holds F)
    (hQ : ∀ z s' a' w', F (z, s') → IsSt R s' a' w' → a'.tmps.size = a.tmps.size → a'.defers = a.defers → (∀ t, (∀ c ∈ l, t ∉ writes c) → a'.tmps.getD t undef = a.tmps.getD t undef) → match z with
      | .normal => LTo P b rest Q a' w'
      | z => Q z.to a' w') (DK : DsOK P C := by exact dsOK_nil rfl) : LTo P b (l ++ rest) Q a w :=
  evL_toD TOK GC hmix DK l s a w hl hsz hs hF hQ

/-! Regions, operation by operation -/

theorem RegTo.nil (h : Q .normal a w) : RegTo P b ops [] Q a w := fun k cs => ⟨.normal, a, w, h, .one step_region_end⟩
theorem RegTo.value {i : Nat} {o : Oper} {v : Value} {w' : World} (ho : ops[i]? = some o) (hg : o.guard = none) (hr : (execOp a.eval o).run P w = .ok (.value v) w') (h : RegTo P b ops l Q (a.put o.dst v) w') : RegTo P b ops (i :: l) Q a w := by
  intro k cs
  obtain ⟨e, a', w'', hq, harr⟩ := h k cs
  have hw : Region.wanted o (yielded ops a.tmps) = true := by simp [Region.wanted, hg]
  have hgo := stepG_op (P := P) (b := b) (k := k) (cs := cs) (w := w) (rest := l) ho hw
  have hfin : ∀ v, (b.at a (.inRegion ops (i :: l) :: k)).finish v = b.at (a.put o.dst v) (.inRegion ops l :: k) := by
    intro v; rw [Frame.finish_at, ho]; rfl
  refine ⟨e, a', w'', hq, .of_steps (.one (step_lone_go ?_)) harr⟩
  rw [hgo, ← hfin]
  simp [stepG.apply, hr]

theorem RegTo.send {i : Nat} {o : Oper} {x y : Operand} {c cap s r : Nat} {buf : Array Value} {tm : Bool} {v : Value} (ho : ops[i]? = some o) (hg : o.guard = none) (hb : b.kind ≠ .early) (hop : o.op = .send x y) (hx : a.eval x = .chan (some c)) (hy : a.eval y = v)
    (hc : w.heap[c]? = some (.chan cap buf false s r tm)) (hroom : buf.size < cap) (h : RegTo P b ops l Q (a.put o.dst undef) (w.setChan c cap (buf.push v) false (s + 1) r tm)) : RegTo P b ops (i :: l) Q a w := by
  intro k cs
  obtain ⟨e, a', w'', hq, harr⟩ := h k cs
  have hw : Region.wanted o (yielded ops a.tmps) = true := by simp [Region.wanted, hg]
  refine ⟨e, a', w'', hq, .of_steps (.one ?_) harr⟩
  have hst := step_lone_send_room (P := P) (fr := b.at a (.inRegion ops (i :: l) :: k)) (cs := cs) (w := w) (stepG_comm (cases := #[scase c v (.tuple #[])]) (blocking := true) (shape := .send) (w' := w) ho hw hb (by
    unfold execOp
    rw [hop]
    simp only [hx, hy]
    simp [scase])) hc hroom
  rw [lone_eq_solo, hst, Frame.finish_at, ho]
  rfl

theorem step_lone_select_recv {fr : Frame} {cs : List Frame} {w w₁ : World} {es : Array Event} {c cap s r : Nat} {buf : Array Value} {z : Value} {tm : Bool} (h : stepG P true (G fr cs) w = .comm (G fr cs) #[rcase c z] false .select w₁ es) (hc : w₁.heap[c]? = some (.chan cap buf false s r tm)) (hsome : 0 < buf.size) :
    step P (solo (G fr cs) w) = .next (solo (G (fr.finish (.tuple #[goInt 0, .bool true, buf.getD 0 undef])) cs) (w₁.setChan c cap (buf.extract 1 buf.size) false s (r + 1) tm)) := by
  have hp := partners_alone (c := c) true
  rw [step, stepT_solo rfl]
  simp [runT, solo, G, Array.swapAt!, Array.swapAt, h, GStep.es, communicate, ways, rcase, hc, hp, hsome, choose, Sem.run, Question.forced, bind, Sem.bind, pure, Goroutine.finishComm, commResult, World.setChan] at h ⊢

theorem RegTo.select_none {i : Nat} {o : Oper} {c cap s r : Nat} {tm : Bool} {z : Value} (ho : ops[i]? = some o) (hg : o.guard = none) (hb : b.kind ≠ .early) (hex : (execOp a.eval o).run P w = .ok (.comm #[rcase c z] false .select) w)
    (hc : w.heap[c]? = some (.chan cap #[] false s r tm)) (h : RegTo P b ops l Q (a.put o.dst (.tuple #[goInt (-1), .bool false, z])) w) : RegTo P b ops (i :: l) Q a w := by
  intro k cs
  obtain ⟨e, a', w'', hq, harr⟩ := h k cs
  have hw : Region.wanted o (yielded ops a.tmps) = true := by simp [Region.wanted, hg]
  refine ⟨e, a', w'', hq, .of_steps (.one ?_) harr⟩
  have hst := step_lone_select_default (P := P) (fr := b.at a (.inRegion ops (i :: l) :: k)) (cs := cs) (w := w) (stepG_comm (cases := #[rcase c z]) (blocking := false) (shape := .select) (w' := w) ho hw hb hex) hc
  rw [lone_eq_solo, hst, Frame.finish_at, ho]
  rfl
theorem RegTo.select_recv {i : Nat} {o : Oper} {c cap s r : Nat} {tm : Bool} {buf : Array Value} {z : Value} (ho : ops[i]? = some o) (hg : o.guard = none) (hb : b.kind ≠ .early) (hex : (execOp a.eval o).run P w = .ok (.comm #[rcase c z] false .select) w)
    (hc : w.heap[c]? = some (.chan cap buf false s r tm)) (hsome : 0 < buf.size) (h : RegTo P b ops l Q (a.put o.dst (.tuple #[goInt 0, .bool true, buf.getD 0 undef])) (w.setChan c cap (buf.extract 1 buf.size) false s (r + 1) tm)) : RegTo P b ops (i :: l) Q a w := by
  intro k cs
  obtain ⟨e, a', w'', hq, harr⟩ := h k cs
  have hw : Region.wanted o (yielded ops a.tmps) = true := by simp [Region.wanted, hg]
  refine ⟨e, a', w'', hq, .of_steps (.one ?_) harr⟩
  have hst := step_lone_select_recv (P := P) (fr := b.at a (.inRegion ops (i :: l) :: k)) (cs := cs) (w := w) (stepG_comm (cases := #[rcase c z]) (blocking := false) (shape := .select) (w' := w) ho hw hb hex) hc hsome
  rw [lone_eq_solo, hst, Frame.finish_at, ho]
  rfl

/-! The frame of a call -/
theorem calls_of_to {f : FuncId} {fn : Func} {c : Code} {args : Array Value} {R : Ending → World → Prop} (hf : P.funcs[f]? = some fn) (hb : fn.body = some c)
    (h : CodeTo P { (default : Frame) with fn := f, kind := .normal } c (fun e a' w' => (e = .normal ∨ e = .ret) ∧ a'.defers = [] ∧ ∃ v, (results fn a'.tmps).run P w' = .ok v w' ∧ R (.returned v) w') { tmps := args ++ Array.replicate (fn.ntmps - args.size) undef, defers := [] } w) : Calls P f args w R := by
  intro cs
  have henter : Frame.enter P f args .normal = ({ (default : Frame) with fn := f, kind := .normal } : Frame).at { tmps := args ++ Array.replicate (fn.ntmps - args.size) undef, defers := [] } [.code c] := by
    simp [Frame.enter, Frame.at, hf, hb]
  obtain ⟨e, a', w', ⟨he, hd, v, hr, hR⟩, harr⟩ := h [] cs
  rw [← henter] at harr
  rcases he with rfl | rfl
  · exact ⟨.returned v, w', _, hR, Steps.trans harr (.one step_end), rfl, rfl, hd, rfl, fn, hf, hr⟩
  · obtain ⟨todo, hs⟩ := harr
    exact ⟨.returned v, w', _, hR, hs, rfl, rfl, hd, rfl, fn, hf, hr⟩

/-! Another world to start from, but for one block -/
theorem IsSt.frame {R : Ref} {s : St} {a : Act} {w : World} (h : IsSt R s a w) {k : Nat} (hk : k < R.w0.heap.size) (ho : ¬ R.own k) : w.heap[k]? = R.w0.heap[k]? := by
  obtain ⟨M, rfl, _, I, _⟩ := h
  exact I.frame k hk ho
theorem IsSt.grow {R : Ref} {s : St} {a : Act} {w : World} (h : IsSt R s a w) : R.w0.heap.size ≤ w.heap.size := by
  obtain ⟨M, rfl, _, I, _⟩ := h
  exact I.size

theorem rebase {R : Ref} {s : St} {a : Act} {w w' : World} (h : IsSt R s a w) (c : Nat) (hos : w'.os = w.os) (htape : w'.tape = w.tape) (hout : w'.output = w.output) (hsz : w.heap.size ≤ w'.heap.size)
    (hcell : ∀ k, k < w.heap.size → k ≠ c → w'.heap[k]? = w.heap[k]?) (hnew : R.w0.heap.size ≤ c) (hchan : ∀ cs t fr, w.heap[c]? ≠ some (.cells cs t fr)) (hit : ∀ y p, w.heap[c]? ≠ some (.stringIter y p)) (hchan' : ∀ cs t fr, w'.heap[c]? ≠ some (.cells cs t fr)) :
    ∃ R' : Ref, R'.w0 = w' ∧ ¬ R'.own c ∧ IsSt R' s a w' ∧ ∀ s2 a2 w2, IsSt R' s2 a2 w2 → IsSt R s2 a2 w2 := by
  obtain ⟨M, rfl, hb, I, hr⟩ := h
  have hblk' : ∀ b d B, lk b M.bs = some (d, B) → ∀ k, blkOf (M.β b) = some k → k ≠ c := by
    intro b d B hB k hk hkc
    subst hkc
    have hRB := I.boxes b d B hB
    cases B with
    | var g x =>
      obtain ⟨blk, cs, e, h1, h2, _⟩ := hRB
      rw [h1] at hk
      simp [blkOf] at hk
      subst hk
      exact hchan _ _ _ h2
    | row e g xs fz =>
      obtain ⟨cs, ho, _⟩ := hRB
      rcases ho.2 with ⟨hv, _⟩ | ⟨g', cap, cur, hv, _, h2, _⟩
      · rw [hv] at hk; simp [blkOf] at hk
      · rw [hv] at hk
        simp [blkOf] at hk
        subst hk
        exact hchan _ _ _ h2
    | iter y pos =>
      obtain ⟨blk, h1, h2, _⟩ := hRB
      rw [h1] at hk
      simp [blkOf] at hk
      subst hk
      exact hit _ _ h2
  have nocell : ∀ (v : World) (o : Nat), (∀ cs t fr, v.heap[c]? ≠ some (.cells cs t fr)) → v.cell? ⟨c, o, none⟩ = none := by
    intro v o hv
    unfold World.cell?
    split
    · rename_i cc t fr hcc
      exact absurd hcc (hv _ _ _)
    · rfl
  have hk : Keeps M.S M.S M.w w' := by
    intro k o hS
    refine ⟨hS, ?_⟩
    by_cases hkc : k = c
    · subst hkc
      rw [nocell _ o hchan, nocell _ o hchan']
    · exact cell_of_heap (hcell k (I.here k o hS).2 hkc)
  have ref : ∀ {R1 R2 : Ref} {v : Value} {B : Box} {W : World} {S : Stab}, (∀ blk, R1.new blk → blkOf v = some blk → R2.new blk) → RelB R1 W S v B → RelB R2 W S v B := by
    intro R1 R2 v B W S hn hB
    cases B with
    | var g x =>
      obtain ⟨blk, cs, e, h1, h2, h3, h4, h5⟩ := hB
      exact ⟨blk, cs, e, h1, h2, h3, h4, hn blk h5 (by rw [h1]; rfl)⟩
    | row e g xs fz =>
      obtain ⟨cs, h1, h2, h3, h4, h5, h6⟩ := hB
      exact ⟨cs, h1, h2, h3, h4, h5, fun blk hb => ⟨hn blk (h6 blk hb).1 hb, (h6 blk hb).2⟩⟩
    | iter y pos =>
      obtain ⟨blk, h1, h2, h3, h4, h5⟩ := hB
      exact ⟨blk, h1, h2, h3, h4, hn blk h5 (by rw [h1]; rfl)⟩
  have st : Step M { M with w := w' } (fun _ => False) := ⟨hk, fun b d B h _ => ⟨d, B, h, rfl, Box.le_refl B⟩⟩
  refine ⟨⟨w', fun k => R.new k ∧ k ≠ c, M.S, (R.tab.keeps I.old).keeps hk⟩, rfl, fun h => h.2 rfl, ?_, ?_⟩
  · refine ⟨{ M with w := w' }, rfl, hb, ⟨rfl, rfl, rfl, Nat.le_refl _, fun _ _ _ => rfl, Keeps.refl _ _, fun b o hs => ⟨.inl hs, Nat.lt_of_lt_of_le (I.here b o hs).2 hsz⟩, fun b d B hB => ?_, I.sep⟩, fun t => (hr t).step st (fun b hb => hb.elim)⟩
    have hRB := I.boxes b d B hB
    have hm := hRB.move hk (fun blk hblk => hcell blk (hRB.lt blk hblk) (hblk' b d B hB blk hblk)) (fun blk o hblk hs => hs)
    exact ref (fun blk hn hv => .inr ⟨hn, hblk' b d B hB blk hv⟩) hm
  · rintro s2 a2 w2 ⟨M2, rfl, hb2, I2, hr2⟩
    refine ⟨M2, rfl, hb2, ⟨I2.os.trans (hos.trans I.os), I2.tape.trans (htape.trans I.tape), I2.output.trans (hout.trans I.output), Nat.le_trans I.size (Nat.le_trans hsz I2.size), ?_, I.old.trans (hk.trans I2.old), ?_, ?_, I2.sep⟩, hr2⟩
    · intro k h1 h2
      have hkc : k ≠ c := by omega
      have hno : ¬ (R.new k ∧ k ≠ c) := by
        rintro ⟨h3 | h3, _⟩
        · omega
        · exact h2 h3
      have h4 : k < M.w.heap.size := Nat.lt_of_lt_of_le h1 I.size
      exact (I2.frame k (Nat.lt_of_lt_of_le h4 hsz) hno).trans ((hcell k h4 hkc).trans (I.frame k h1 h2))
    · intro b o hs
      obtain ⟨h1, h2⟩ := I2.here b o hs
      refine ⟨?_, h2⟩
      rcases h1 with h1 | h1 | h1
      · exact (I.here b o h1).1
      · exact .inr (.inl (Nat.le_trans (Nat.le_trans I.size hsz) h1))
      · exact .inr h1.1
    · intro b d B hB
      refine ref (fun blk hn _ => ?_) (I2.boxes b d B hB)
      rcases hn with h1 | h1
      · exact .inl (Nat.le_trans (Nat.le_trans I.size hsz) h1)
      · exact h1.1

/-! A call's beginning, and its end -/
theorem start_st {w : World} {S : Stab} {us : List Value} {gs : List GTy} {x : dens gs} (hS : ∀ b o, S b o → b < w.heap.size) (hT : Tab S w) (henc : EncD w S gs x us) (n : Nat) :
    IsSt ⟨w, fun _ => False, S, hT⟩ { tmps := number 0 (resL gs x), boxes := [] } { tmps := us.toArray ++ Array.replicate (n - us.toArray.size) undef, defers := [] } w := by
  let R : Ref := ⟨w, fun _ => False, S, hT⟩
  let M : Mem := ⟨w, S, fun _ => undef, []⟩
  have I : InvM R M := ⟨rfl, rfl, rfl, Nat.le_refl _, fun _ _ _ => rfl, Keeps.refl _ _, fun b o hs => ⟨.inl hs, hS b o hs⟩, fun b d B hb => by simp [M, lk] at hb, fun b c d B d' B' _ hb => by simp [M, lk] at hb⟩
  have hrl := resL_rel (M := M) (gs := gs) (x := x) (us := us) henc
  refine ⟨M, rfl, rfl, I, fun t => ?_⟩
  show RelV M ((lk t (number 0 (resL gs x))).getD .undef) _
  rw [lk_number]
  simp only [Nat.zero_le, if_true, Nat.sub_zero]
  cases hv : (resL gs x)[t]? with
  | none => simp [RelV]
  | some v =>
    obtain ⟨u, h1, h2⟩ := hrl.get t hv
    have hlt := (List.getElem?_eq_some_iff.1 h1).1
    have : (us.toArray ++ Array.replicate (n - us.toArray.size) undef).getD t undef = u := by
      simp only [Array.getD_eq_getD_getElem?]
      rw [Array.getElem?_append_left (by simpa using hlt)]
      simp [h1]
    rw [this]
    simpa using h2

theorem finish_st (TOK : TysOK P C.τ) {w w' : World} {S : Stab} {hT : Tab S w} {s' : St} {a' : Act} {fn : Func} {res : List GTy} {y : dens res} (hs : IsSt ⟨w, fun _ => False, S, hT⟩ s' a' w') (hF : (evRes C fn res (.normal, s')).holds (fun z => z = y)) :
    ∃ v, (results fn a'.tmps).run P w' = .ok v w' ∧ ∃ v', Ending.returned v = Ending.returned v' ∧ Grows w w' ∧ ∃ N : Stab, (∀ b o, N b o → w.heap.size ≤ b ∧ b < w'.heap.size) ∧ RelRes w' (fun b o => S b o ∨ N b o) res y v' := by
  obtain ⟨M', rfl, hb', I', hr'⟩ := hs
  simp only [evRes] at hF
  split at hF
  · exact hF.elim
  rename_i aas has
  split at hF
  · exact hF.elim
  rename_i z ws htk
  simp only [Tree.holds] at hF
  subst hF
  obtain ⟨us', q1, q2⟩ := resArgs_sound TOK I' hb' hr' has
  obtain ⟨_, S', fz, henc'⟩ := takes_sound I' q2 htk
  refine ⟨_, results_run q1, _, rfl, ⟨I'.os, I'.tape, I'.output, I'.size, fun k hk => I'.frame k hk id⟩, fun b o => S' b o ∧ w.heap.size ≤ b, fun b o hN => ⟨hN.2, (fz.inv.here b o hN.1).2⟩, us', ?_, by rcases us' with _ | ⟨u, _ | ⟨v, us⟩⟩ <;> rfl⟩
  refine henc'.keeps (fun b o hs => ⟨?_, rfl⟩)
  rcases (fz.inv.here b o hs).1 with h3 | h3 | h3
  · exact .inl h3
  · exact .inr ⟨hs, h3⟩
  · exact h3.elim

/-! Slots that nothing is known of -/
theorem IsSt.put_undef {R : Ref} {s : St} {d : Nat} {v : Value} (h : IsSt R s a w) (hd : s.look d = .undef) (hsz : d < a.tmps.size) : IsSt R s (a.put (some d) v) w := by
  obtain ⟨M, hM, hb, I, hr⟩ := h
  refine ⟨M, hM, hb, I, fun t => ?_⟩
  rw [put_getD a (some d) v t (fun k hk => by cases hk; exact hsz)]
  split
  · rename_i ht
    cases ht
    rw [hd]; simp [RelV]
  · exact hr t
theorem IsSt.put_known {R : Ref} {s : St} {d : Nat} {v : Value} {av : AV} (h : IsSt R s a w) (hv : ∀ M, RelV M av v) (hsz : d < a.tmps.size) : IsSt R (s.put d av) (a.put (some d) v) w := by
  obtain ⟨M, hM, hb, I, hr⟩ := h
  refine ⟨M, hM, hb, I, fun t => ?_⟩
  rw [put_getD a (some d) v t (fun k hk => by cases hk; exact hsz), look_put]
  by_cases ht : t = d
  · subst ht
    simp [hv]
  · rw [if_neg ht, if_neg (fun e => ht (by cases e; rfl))]
    exact hr t
theorem IsSt.grows {R : Ref} {s : St} {w' : World} (h : IsSt R s a w) (g : Grows w w') : IsSt R s a w' := by
  obtain ⟨M, rfl, hb, I, hr⟩ := h
  obtain ⟨I2, st⟩ := I.grow g
  exact ⟨{ M with w := w' }, rfl, hb, I2, fun t => (hr t).steps st⟩
theorem put_same {d t : Nat} {v : Value} (hsz : d < a.tmps.size) (h : t ≠ d) : (a.put (some d) v).tmps.getD t undef = a.tmps.getD t undef := by
  rw [put_getD a (some d) v t (fun k hk => by cases hk; exact hsz), if_neg (fun e => h (by cases e; rfl))]
theorem put_at {d : Nat} {v : Value} (hsz : d < a.tmps.size) : (a.put (some d) v).tmps.getD d undef = v := by
  rw [put_getD a (some d) v d (fun k hk => by cases hk; exact hsz), if_pos rfl]

theorem RegTo.yields {i : Nat} {o : Oper} {K : Value → World → Prop} (ho : ops[i]? = some o) (hg : o.guard = none) (h : Yields P a.eval o w K) (hk : ∀ v w', K v w' → RegTo P b ops l Q (a.put o.dst v) w') : RegTo P b ops (i :: l) Q a w := by
  intro k cs
  have hw : Region.wanted o (yielded ops a.tmps) = true := by simp [Region.wanted, hg]
  have hgo := stepG_op (P := P) (b := b) (k := k) (cs := cs) (w := w) (rest := l) ho hw
  have hfin : ∀ v, (b.at a (.inRegion ops (i :: l) :: k)).finish v = b.at (a.put o.dst v) (.inRegion ops l :: k) := by
    intro v; rw [Frame.finish_at, ho]; rfl
  unfold Yields at h
  split at h
  · rename_i v w' hr
    obtain ⟨e, a', w'', hq, harr⟩ := hk v w' h k cs
    refine ⟨e, a', w'', hq, .of_steps (.one (step_lone_go ?_)) harr⟩
    rw [hgo, ← hfin]; simp [stepG.apply, hr]
  · rename_i w' hr
    obtain ⟨e, a', w'', hq, harr⟩ := hk undef w' h k cs
    refine ⟨e, a', w'', hq, .of_steps (.one (step_lone_go ?_)) harr⟩
    rw [hgo, ← hfin]; simp [stepG.apply, hr]
  · rename_i f args w' hr
    obtain ⟨e, w'', fr, ⟨v, rfl, hv⟩, hsteps, _, hleave⟩ := h (b.at a (.inRegion ops (i :: l) :: k) :: cs)
    have henter : step P (lone (b.at a (.inRegion ops (i :: l) :: k)) cs w) = .next (lone (Frame.enter P f args .normal) (b.at a (.inRegion ops (i :: l) :: k) :: cs) w') :=
      step_lone_go (by rw [hgo]; simp [stepG.apply, hr, Frame.at])
    obtain ⟨e, a', w₃, hq, harr⟩ := hk v w'' hv k cs
    refine ⟨e, a', w₃, hq, .of_steps (.head henter (hsteps.trans (.one ?_))) harr⟩
    rw [← hfin]; exact step_leave_returned hleave
  · exact h.elim

theorem RegTo.op (TOK : TysOK P C.τ) (GOK : CtrsOK P C.Γ) {R : Ref} {s : St} {i : Nat} {o : Oper} {e : Eff} (ho : ops[i]? = some o) (hg : o.guard = none) (hs : IsSt R s a w) (he : opEff C.τ C.Γ (o.dst.getD 0) o (s.args o) = some e) (hn : e.ok) (hd : ∀ k, o.dst = some k → k < a.tmps.size)
    (hnext : ∀ a' w', IsSt R (s.after o e) a' w' → Apart (fun t => o.dst = some t) s a (s.after o e) a' → RegTo P b ops l Q a' w') : RegTo P b ops (i :: l) Q a w := by
  obtain ⟨M, hM, hb, I, hr⟩ := hs
  rw [args_eq s o hb] at he
  have := opEff_sound TOK GOK I (eval_func a) (opRel_of (R.tab.keeps I.old) hr o) he hn
  rw [hM] at this
  refine RegTo.yields ho hg this (fun v w' hv => ?_)
  obtain ⟨h1, h2⟩ := IsSt.after hM hb hr hd hv
  exact hnext _ _ h1 h2
def pieceT (C : Ctx) (fn : Func) (res : List GTy) (ts : List (Nat × Sh)) (bs : List (Nat × BSh)) (l : List Code) (s : St) : Tree (Option (dens res) × Option (ShT ts × ShB bs)) :=
  (evL C l s).bind fun p => match p.1 with
    | .ret => (evRes C fn res (.normal, p.2)).bind fun y => .leaf (some y, none)
    | .normal => match restrict { prom := [], keep := ts.map (·.1), boxes := bs.map (·.1), sum := fun _ => .stuck } p.2 with
      | none => .stuck
      | some s' => .leaf (none, unS ts bs s')
    | .exit _ => .stuck
    | .die _ => .stuck

theorem piece_to (TOK : TysOK P C.τ) (GC : CtrsOK P C.Γ) (hmix : P.follows .mixedOrders = true) {R : Ref} {fn : Func} {res : List GTy} {ts : List (Nat × Sh)} {bs : List (Nat × BSh)} {rest l : List Code} {s : St} {G : Option (dens res) × Option (ShT ts × ShB bs) → Prop} (hl : ∀ c ∈ l, LamOK C c) (hsz : ∀ c ∈ l, ∀ t ∈ writes c, t < a.tmps.size) (hs : IsSt R s a w) (hG : (pieceT C fn res ts bs l s).holds G)
    (hret : ∀ y s' a' w', G (some y, none) → IsSt R s' a' w' → a'.defers = a.defers → (evRes C fn res (.normal, s')).holds (fun z => z = y) → Q .ret a' w')
    (hgo : ∀ x a' w', G (none, some x) → IsSt R (mkS ts bs x) a' w' → a'.tmps.size = a.tmps.size → a'.defers = a.defers → (∀ t, (∀ c ∈ l, t ∉ writes c) → a'.tmps.getD t undef = a.tmps.getD t undef) → LTo P b rest Q a' w')
    (hbad : ¬ G (none, none)) (DK : DsOK P C := by exact dsOK_nil rfl) : LTo P b (l ++ rest) Q a w := by
  refine evL_to (DK := DK) TOK GC hmix l s a w hl hsz hs (holds_bind.1 hG) ?_
  intro z s' a' w' hF h1 h2 h3 h4
  cases z with
  | normal =>
    simp only at hF
    split at hF
    · exact hF.elim
    · rename_i s'' hr
      have h5 := h1.restr (restrict_spec hr)
      simp only [Tree.holds] at hF
      cases hu : unS ts bs s'' with
      | none => rw [hu] at hF; exact absurd hF hbad
      | some x =>
        rw [hu] at hF
        have := unS_eq hu
        subst this
        exact hgo x a' w' hF h5 h2 h3 h4
  | ret =>
    have hF' := holds_bind.1 hF
    have key : ∀ (t : Tree (dens res)), t = evRes C fn res (.normal, s') → t.holds (fun y => (Tree.leaf (some y, none)).holds G) → Q .ret a' w' := by
      intro t ht hh
      cases t with
      | leaf y => exact hret y s' a' w' hh h1 h3 (by rw [← ht]; rfl)
      | stuck => exact hh.elim
      | br c t e =>
        exfalso
        simp only [evRes] at ht
        split at ht
        · cases ht
        · split at ht <;> cases ht
      | need p t =>
        exfalso
        simp only [evRes] at ht
        split at ht
        · cases ht
        · split at ht <;> cases ht
    exact key _ rfl hF'
  | exit id => exact hF.elim
  | die v => exact hF.elim

/-! A channel kept beside the evaluator -/
theorem IsSt.bool {R : Ref} {s : St} {d : Nat} {t : Bool} (h : IsSt R s a w) (hl : s.look d = .val .bool t) : a.eval (.tmp d) = .bool t := by
  obtain ⟨M, _, _, _, hr⟩ := h
  have := hr d
  rw [hl] at this
  obtain ⟨cs, h1, h2⟩ := this
  have h3 : cs = [.bool t] := h1
  subst h3
  exact h2
structure Hd (R0 : Ref) (c : Nat) (obj : Obj) (n d : Nat) (s : St) (a : Act) (w : World) : Prop where
  new : R0.w0.heap.size ≤ c
  size : a.tmps.size = n
  defers : a.defers = []
  slot : a.tmps.getD d undef = .chan (some c)
  st : ∃ R : Ref, R.w0.heap[c]? = some obj ∧ ¬ R.own c ∧ IsSt R s a w ∧ ∀ s2 a2 w2, IsSt R s2 a2 w2 → IsSt R0 s2 a2 w2

variable {R0 : Ref} {c : Nat} {obj : Obj} {n d : Nat} {s : St}

theorem Hd.heap (h : Hd R0 c obj n d s a w) : w.heap[c]? = some obj := by
  obtain ⟨R, h1, h2, h3, _⟩ := h.st
  rw [h3.frame (Array.getElem?_eq_some_iff.1 h1).1 h2]
  exact h1
theorem Hd.old (h : Hd R0 c obj n d s a w) : IsSt R0 s a w := by
  obtain ⟨R, _, _, h3, h4⟩ := h.st
  exact h4 _ _ _ h3
theorem Hd.restr {L : LoopSpec} {s' : St} (h : Hd R0 c obj n d s a w) (hr : restrict L s = some s') : Hd R0 c obj n d s' a w := by
  obtain ⟨R, h1, h2, h3, h4⟩ := h.st
  exact ⟨h.new, h.size, h.defers, h.slot, R, h1, h2, h3.restr (restrict_spec hr), h4⟩
theorem Hd.undef {k : Nat} {v : Value} (h : Hd R0 c obj n d s a w) (hl : s.look k = .undef) (hk : k < n) (hd : d ≠ k) : Hd R0 c obj n d s (a.put (some k) v) w := by
  obtain ⟨R, h1, h2, h3, h4⟩ := h.st
  have hk' : k < a.tmps.size := by rw [h.size]; exact hk
  exact ⟨h.new, (put_size _ _ _).trans h.size, (put_defers' _ _ _).trans h.defers, (put_same hk' hd).trans h.slot, R, h1, h2, h3.put_undef hl hk', h4⟩
theorem Hd.known {k : Nat} {v : Value} {av : AV} (h : Hd R0 c obj n d s a w) (hv : ∀ M, RelV M av v) (hk : k < n) (hd : d ≠ k) : Hd R0 c obj n d (s.put k av) (a.put (some k) v) w := by
  obtain ⟨R, h1, h2, h3, h4⟩ := h.st
  have hk' : k < a.tmps.size := by rw [h.size]; exact hk
  exact ⟨h.new, (put_size _ _ _).trans h.size, (put_defers' _ _ _).trans h.defers, (put_same hk' hd).trans h.slot, R, h1, h2, h3.put_known hv hk', h4⟩
theorem Hd.set {cap cap' sn rn sn' rn' : Nat} {buf buf' : Array Value} {cl cl' tm tm' : Bool} (h : Hd R0 c (.chan cap buf cl sn rn tm) n d s a w) : Hd R0 c (.chan cap' buf' cl' sn' rn' tm') n d s a (w.setChan c cap' buf' cl' sn' rn' tm') := by
  have hc := h.heap
  have hlt : c < w.heap.size := (Array.getElem?_eq_some_iff.1 hc).1
  have hs := heap_setChan w c cap' buf' cl' sn' rn' tm' hlt
  obtain ⟨R', h1, h2, h3, h4⟩ := rebase (w' := w.setChan c cap' buf' cl' sn' rn' tm') h.old c rfl rfl rfl (by rw [size_setChan]; exact Nat.le_refl _) (fun k _ hk => by simp [World.setChan, Array.getElem?_setIfInBounds_ne (Ne.symm hk)]) h.new (fun _ _ _ => by rw [hc]; intro e; cases e) (fun _ _ => by rw [hc]; intro e; cases e) (fun _ _ _ => by rw [hs]; intro e; cases e)
  exact ⟨h.new, h.size, h.defers, h.slot, R', by rw [h1]; exact hs, h2, h3, h4⟩
theorem at_make {cap : Nat} {buf : Array Value} {cl tm : Bool} {sn rn : Nat} (h : IsSt R0 s a (w.alloc (.chan cap buf cl sn rn tm))) (hw : R0.w0.heap.size ≤ w.heap.size) (hs : a.tmps.size = n) (hd : a.defers = []) (hc : a.tmps.getD d undef = .chan (some w.heap.size)) :
    Hd R0 w.heap.size (.chan cap buf cl sn rn tm) n d s a (w.alloc (.chan cap buf cl sn rn tm)) := by
  have hn := heap_alloc_new w (.chan cap buf cl sn rn tm)
  obtain ⟨R', h1, h2, h3, h4⟩ := rebase (w' := w.alloc (.chan cap buf cl sn rn tm)) h w.heap.size rfl rfl rfl (Nat.le_refl _) (fun _ _ _ => rfl) hw (fun _ _ _ => by rw [hn]; intro e; cases e) (fun _ _ => by rw [hn]; intro e; cases e) (fun _ _ _ => by rw [hn]; intro e; cases e)
  exact ⟨hw, hs, hd, hc, R', by rw [h1]; exact hn, h2, h3, h4⟩
theorem Hd.op (TOK : TysOK P C.τ) (GOK : CtrsOK P C.Γ) {i : Nat} {o : Oper} {e : Eff} (h : Hd R0 c obj n d s a w) (ho : ops[i]? = some o) (hg : o.guard = none) (he : opEff C.τ C.Γ (o.dst.getD 0) o (s.args o) = some e) (hn : e.ok) (hk : ∀ k, o.dst = some k → k < n ∧ k ≠ d)
    (hnext : ∀ a' w', Hd R0 c obj n d (s.after o e) a' w' → (∀ t, o.dst ≠ some t → a'.tmps.getD t Go.undef = a.tmps.getD t Go.undef) → RegTo P b ops l Q a' w') : RegTo P b ops (i :: l) Q a w := by
  obtain ⟨R, h1, h2, h3, h4⟩ := h.st
  refine RegTo.op TOK GOK ho hg h3 he hn (fun k hk' => by rw [h.size]; exact (hk k hk').1) fun a' w' h5 h6 => hnext a' w' ⟨h.new, h6.size.trans h.size, h6.defers.trans h.defers, (h6.tmps d (fun hd => (hk d hd).2 rfl)).trans h.slot, R, h1, h2, h5, h4⟩ (fun t ht => h6.tmps t ht)
theorem Hd.move {i k : Nat} {o : Oper} (h : Hd R0 c obj n d s a w) (ho : ops[i]? = some o) (hg : o.guard = none) (hop : o.op = .move (.tmp d)) (hdst : o.dst = some k) (hl : s.look k = .undef) (hk : k < n) (hd : d ≠ k)
    (hnext : ∀ a', Hd R0 c obj n d s a' w → a'.tmps.getD k Go.undef = .chan (some c) → RegTo P b ops l Q a' w) : RegTo P b ops (i :: l) Q a w := by
  refine RegTo.value (v := .chan (some c)) (w' := w) ho hg ?_ ?_
  · have he : a.eval (.tmp d) = .chan (some c) := h.slot
    unfold execOp
    rw [hop]
    simp only [he]
    rfl
  · rw [hdst]
    exact hnext _ (h.undef hl hk hd) (put_at (by rw [h.size]; exact hk))
theorem Hd.send {i k cap sn rn : Nat} {buf : Array Value} {tm : Bool} {y : Operand} {o : Oper} (h : Hd R0 c (.chan cap buf false sn rn tm) n d s a w) (ho : ops[i]? = some o) (hg : o.guard = none) (hb : b.kind ≠ .early) (hop : o.op = .send (.tmp k) y) (hdst : o.dst = none) (hx : a.tmps.getD k Go.undef = .chan (some c)) (hroom : buf.size < cap)
    (hnext : ∀ v w', Hd R0 c (.chan cap (buf.push v) false (sn + 1) rn tm) n d s a w' → RegTo P b ops l Q a w') : RegTo P b ops (i :: l) Q a w := by
  refine RegTo.send ho hg hb hop hx rfl h.heap hroom ?_
  rw [hdst]
  exact hnext _ _ h.set
theorem Hd.select {i k x et cap sn rn : Nat} {buf : Array Value} {tm : Bool} {z : Value} {o : Oper} (h : Hd R0 c (.chan cap buf false sn rn tm) n d s a w) (ho : ops[i]? = some o) (hg : o.guard = none) (hb : b.kind ≠ .early) (hop : o.op = .select #[⟨.tmp x, none, et⟩] false) (hdst : o.dst = some k) (hx : a.tmps.getD x Go.undef = .chan (some c))
    (hz : (zeroValue et).run P w = .ok z w) (hk : k < n) (hd : d ≠ k)
    (hnext : ∀ buf' rn' a' w', Hd R0 c (.chan cap buf' false sn rn' tm) n d (s.put k (.tup [.val (.int .i64) (if buf.isEmpty = true then (-1 : Int) else 0), .undef, .undef])) a' w' → RegTo P b ops l Q a' w') : RegTo P b ops (i :: l) Q a w := by
  have hex : (execOp a.eval o).run P w = .ok (.comm #[rcase c z] false .select) w := by
    have he : a.eval (.tmp x) = .chan (some c) := hx
    unfold execOp
    rw [hop]
    simp [he, hz, rcase]
  have rel : ∀ (m : Int) (e1 e2 : Value) (M : Mem), IntKind.i64.has m → RelV M (.tup [.val (.int .i64) m, .undef, .undef]) (.tuple #[.int .i64 m, e1, e2]) := by
    intro m e1 e2 M hm
    exact ⟨_, rfl, ⟨[.int .i64 m], ⟨rfl, hm⟩, rfl⟩, trivial, trivial, trivial⟩
  by_cases he : buf = #[]
  · subst he
    refine RegTo.select_none ho hg hb hex h.heap ?_
    rw [hdst]
    exact hnext #[] rn _ _ (h.known (fun M => rel (-1) _ _ M (by simp [IntKind.has, IntKind.min, IntKind.max, IntKind.bits, IntKind.signed])) hk hd)
  · have hs : 0 < buf.size := Nat.pos_of_ne_zero (fun e => he (Array.size_eq_zero_iff.1 e))
    refine RegTo.select_recv ho hg hb hex h.heap hs ?_
    rw [hdst]
    have hm : (if buf.isEmpty = true then (-1 : Int) else 0) = 0 := by simp [he]
    rw [hm] at hnext
    exact hnext _ _ _ _ (Hd.known h.set (fun M => rel 0 _ _ M (by simp [IntKind.has, IntKind.min, IntKind.max, IntKind.bits, IntKind.signed])) hk hd)
def calmL (n d : Nat) (cs : List Code) : Bool := cs.all fun x => (loopsOf x).isEmpty && (writes x).all fun t => Nat.blt t n && !(Nat.beq t d)
theorem calmL_lam {cs : List Code} (h : calmL n d cs = true) : ∀ x ∈ cs, LamOK C x := fun x hx => by
  unfold calmL at h
  rw [List.all_eq_true] at h
  have h1 := h x hx
  rw [Bool.and_eq_true] at h1
  have h2 : loopsOf x = [] := by simpa using h1.1
  exact lam_of x fun id body hm => by rw [h2] at hm; cases hm
theorem calmL_wr {cs : List Code} (h : calmL n d cs = true) : ∀ x ∈ cs, ∀ t ∈ writes x, t < n ∧ t ≠ d := fun x hx t ht => by
  unfold calmL at h
  rw [List.all_eq_true] at h
  have h1 := h x hx
  rw [Bool.and_eq_true, List.all_eq_true] at h1
  have h2 := h1.2 t ht
  rw [Bool.and_eq_true, Nat.blt_eq] at h2
  exact ⟨h2.1, fun e => by subst e; simp at h2⟩
theorem Hd.piece (TOK : TysOK P C.τ) (GC : CtrsOK P C.Γ) (hmix : P.follows .mixedOrders = true) {fn : Func} {res : List GTy} {ts : List (Nat × Sh)} {bs : List (Nat × BSh)} {rest cs : List Code} {G : Option (dens res) × Option (ShT ts × ShB bs) → Prop} (h : Hd R0 c obj n d s a w) (hcalm : calmL n d cs = true) (hG : (pieceT C fn res ts bs cs s).holds G)
    (hret : ∀ y s' a' w', G (some y, none) → IsSt R0 s' a' w' → a'.defers = [] → (evRes C fn res (.normal, s')).holds (fun z => z = y) → Q .ret a' w')
    (hgo : ∀ x a' w', G (none, some x) → Hd R0 c obj n d (mkS ts bs x) a' w' → LTo P b rest Q a' w')
    (hbad : ¬ G (none, none)) (DK : DsOK P C := by exact dsOK_nil rfl) : LTo P b (cs ++ rest) Q a w := by
  obtain ⟨R, h1, h2, h3, h4⟩ := h.st
  have hsz := calmL_wr hcalm
  refine piece_to (DK := DK) TOK GC hmix (calmL_lam hcalm) (fun x hx t ht => by rw [h.size]; exact (hsz x hx t ht).1) h3 hG ?_ ?_ hbad
  · intro y s' a' w' k1 k2 k3 k4
    exact hret y s' a' w' k1 (h4 _ _ _ k2) (k3.trans h.defers) k4
  · intro x a' w' k1 k2 k3 k4 k5
    exact hgo x a' w' k1 ⟨h.new, k3.trans h.size, k4.trans h.defers, (k5 d (fun x hx ht => (hsz x hx d ht).2 rfl)).trans h.slot, R, h1, h2, k2, h4⟩
theorem dst_ok {o : Oper} {m n d : Nat} (h : o.dst = some m) (hm : (Nat.blt m n && !(Nat.beq m d)) = true) : ∀ k, o.dst = some k → k < n ∧ k ≠ d := by
  intro k hk
  rw [h] at hk
  have e : m = k := Option.some.inj hk
  subst e
  rw [Bool.and_eq_true, Nat.blt_eq] at hm
  exact ⟨hm.1, fun e => by subst e; simp at hm⟩
def finQ (C : Ctx) (fn : Func) (res : List GTy) (R0 : Ref) (y : dens res) (e : Exit) (a' : Act) (w' : World) : Prop :=
  (e = .normal ∨ e = .ret) ∧ a'.defers = [] ∧ ∃ s', IsSt R0 s' a' w' ∧ (evRes C fn res (.normal, s')).holds (fun z => z = y)

theorem ctr_of_to (TOK : TysOK P C.τ) {f : Nat} {k : Ctr} (hf : (P.funcs[f]?).isSome = true) (hname : ((fnOf P f).name == "runtime.NumGoroutine") = false) (hbody : (fnOf P f).body.isSome = true) (hn : ∀ x, (resL k.args x).length ≤ (fnOf P f).ntmps)
    (h : ∀ (R0 : Ref) (b : Frame) (x : dens k.args) (a : Act), b.kind ≠ .early → wtD k.args x → (∀ p, k.pre = some p → p x) → IsSt R0 { tmps := number 0 (resL k.args x), boxes := [] } a R0.w0 → a.tmps.size = (fnOf P f).ntmps → a.defers = [] →
      LTo P b (seqs (bodyOf (fnOf P f))) (finQ C (fnOf P f) k.res R0 (k.fn x)) a R0.w0) : CtrOK P f k := by
  refine ⟨⟨_, fnOf_eq hf, by rw [bodyOf_eq hbody]; rfl, hname⟩, fun w S us x hS hT henc hpre => ?_⟩
  have h0 := start_st (n := (fnOf P f).ntmps) hS hT henc
  have hlen := (resL_rel (M := ⟨w, S, fun _ => undef, []⟩) henc).length
  have hx := hn x
  refine calls_of_to (fnOf_eq hf) (bodyOf_eq hbody) ?_
  refine CodeTo.mono (CodeTo.seqs (h ⟨w, fun _ => False, S, hT⟩ _ x _ (fun e => by cases e) henc.wt hpre h0 (by simp; omega) rfl)) ?_
  rintro e a' w' ⟨he, hd, s', h1, h2⟩
  exact ⟨he, hd, finish_st TOK h1 h2⟩
end
end Go.Ev
/- Another world to start from, but for a set of blocks that no box owns. -/
set_option linter.unusedVariables false
set_option linter.unusedSimpArgs false
namespace Go.Ev
theorem rebaseK {R0 R : Ref} {K K' : Nat → Prop} {s : St} {a : Act} {w w' : World} (h : IsSt R s a w) (back : ∀ M, InvM R M → InvM R0 M) (hK : ∀ k, K k → k < R.w0.heap.size ∧ ¬ R.own k ∧ ∀ o, ¬ R.S0 k o)
    (hK' : ∀ k, K' k → K k ∨ w.heap.size ≤ k) (hnew : ∀ k, K' k → R0.w0.heap.size ≤ k) (hlt : ∀ k, K' k → k < w'.heap.size)
    (hos : w'.os = w.os) (htape : w'.tape = w.tape) (hout : w'.output = w.output) (hsz : w.heap.size ≤ w'.heap.size) (hcell : ∀ k, k < w.heap.size → ¬ K' k → w'.heap[k]? = w.heap[k]?) :
    ∃ R' : Ref, R'.w0 = w' ∧ (∀ k, K' k → k < R'.w0.heap.size ∧ ¬ R'.own k ∧ ∀ o, ¬ R'.S0 k o) ∧ IsSt R' s a w' ∧ ∀ M, InvM R' M → InvM R0 M := by
  obtain ⟨M, rfl, hb, I, hr⟩ := h
  have I0 := back M I
  have noS : ∀ k o, K' k → ¬ M.S k o := by
    intro k o hk hs
    obtain ⟨h1, h2⟩ := I.here k o hs
    rcases hK' k hk with h3 | h3
    · obtain ⟨g1, g2, g3⟩ := hK k h3
      rcases h1 with h1 | h1 | h1
      · exact g3 o h1
      · omega
      · exact g2 h1
    · omega
  have notK : ∀ k, R.new k → k < M.w.heap.size → ¬ K' k := by
    intro k hn hl hk
    rcases hK' k hk with h3 | h3
    · obtain ⟨g1, g2, g3⟩ := hK k h3
      rcases hn with h1 | h1
      · omega
      · exact g2 h1
    · omega
  have hblk' : ∀ b d B, lk b M.bs = some (d, B) → ∀ k, blkOf (M.β b) = some k → ¬ K' k := by
    intro b d B hB k hk
    have hRB := I.boxes b d B hB
    have hl := hRB.lt k hk
    refine notK k ?_ hl
    cases B with
    | var g x =>
      obtain ⟨blk, cs, e, h1, h2, h3, h4, h5⟩ := hRB
      rw [h1] at hk
      simp [blkOf] at hk
      subst hk
      exact h5
    | row e g xs fz =>
      obtain ⟨cs, h1, h2, h3, h4, h5, h6⟩ := hRB
      exact (h6 k hk).1
    | iter y pos => exact hRB.new k hk
  have hk : Keeps M.S M.S M.w w' := by
    intro k o hS
    exact ⟨hS, cell_of_heap (hcell k (I.here k o hS).2 (fun hk => noS k o hk hS))⟩
  have ref : ∀ {R1 R2 : Ref} {v : Value} {B : Box} {W : World} {S : Stab}, (∀ blk, R1.new blk → blkOf v = some blk → R2.new blk) → RelB R1 W S v B → RelB R2 W S v B := by
    intro R1 R2 v B W S hn hB
    cases B with
    | var g x =>
      obtain ⟨blk, cs, e, h1, h2, h3, h4, h5⟩ := hB
      exact ⟨blk, cs, e, h1, h2, h3, h4, hn blk h5 (by rw [h1]; rfl)⟩
    | row e g xs fz =>
      obtain ⟨cs, h1, h2, h3, h4, h5, h6⟩ := hB
      exact ⟨cs, h1, h2, h3, h4, h5, fun blk hb => ⟨hn blk (h6 blk hb).1 hb, (h6 blk hb).2⟩⟩
    | iter y pos =>
      obtain ⟨blk, h1, h2, h3, h4, h5⟩ := hB
      exact ⟨blk, h1, h2, h3, h4, hn blk h5 (by rw [h1]; rfl)⟩
  have st : Step M { M with w := w' } (fun _ => False) := ⟨hk, fun b d B h _ => ⟨d, B, h, rfl, Box.le_refl B⟩⟩
  refine ⟨⟨w', fun k => R0.new k ∧ ¬ K' k, M.S, (R0.tab.keeps I0.old).keeps hk⟩, rfl, fun k h => ⟨hlt k h, fun g => g.2 h, fun o => noS k o h⟩, ?_, ?_⟩
  · refine ⟨{ M with w := w' }, rfl, hb, ⟨rfl, rfl, rfl, Nat.le_refl _, fun _ _ _ => rfl, Keeps.refl _ _, fun b o hs => ⟨.inl hs, Nat.lt_of_lt_of_le (I.here b o hs).2 hsz⟩, fun b d B hB => ?_, I.sep⟩, fun t => (hr t).step st (fun b hb => hb.elim)⟩
    have hRB := I0.boxes b d B hB
    have hm := hRB.move hk (fun blk hblk => hcell blk (hRB.lt blk hblk) (hblk' b d B hB blk hblk)) (fun blk o hblk hs => hs)
    exact ref (fun blk hn hv => .inr ⟨hn, hblk' b d B hB blk hv⟩) hm
  · intro M2 I2
    refine ⟨I2.os.trans (hos.trans I0.os), I2.tape.trans (htape.trans I0.tape), I2.output.trans (hout.trans I0.output), Nat.le_trans I0.size (Nat.le_trans hsz I2.size), ?_, I0.old.trans (hk.trans I2.old), ?_, ?_, I2.sep⟩
    · intro k h1 h2
      have hkc : ¬ K' k := fun h => by have := hnew k h; omega
      have hno : ¬ (R0.new k ∧ ¬ K' k) := by
        rintro ⟨h3 | h3, _⟩
        · omega
        · exact h2 h3
      have h4 : k < M.w.heap.size := Nat.lt_of_lt_of_le h1 I0.size
      exact (I2.frame k (Nat.lt_of_lt_of_le h4 hsz) hno).trans ((hcell k h4 hkc).trans (I0.frame k h1 h2))
    · intro b o hs
      obtain ⟨h1, h2⟩ := I2.here b o hs
      refine ⟨?_, h2⟩
      rcases h1 with h1 | h1 | h1
      · exact (I0.here b o h1).1
      · exact .inr (.inl (Nat.le_trans (Nat.le_trans I0.size hsz) h1))
      · exact .inr h1.1
    · intro b d B hB
      refine ref (fun blk hn _ => ?_) (I2.boxes b d B hB)
      rcases hn with h1 | h1
      · exact .inl (Nat.le_trans (Nat.le_trans I0.size hsz) h1)
      · exact h1.1

section
variable {P : Program} {C : Ctx} {b : Frame} {Q : Exit → Act → World → Prop} {a : Act} {w : World} {ops : Array Oper} {l : List Nat}
structure Kd (R0 : Ref) (K : Nat → Prop) (W : Nat → Option Obj) (n : Nat) (sl : List (Nat × Value)) (s : St) (a : Act) (w : World) (D : List Deferred := []) : Prop where
  new : ∀ k, K k → R0.w0.heap.size ≤ k
  size : a.tmps.size = n
  defers : a.defers = D
  slots : ∀ p ∈ sl, a.tmps.getD p.1 undef = p.2
  st : ∃ R : Ref, (∀ k, K k → k < R.w0.heap.size ∧ ¬ R.own k ∧ ∀ o, ¬ R.S0 k o) ∧ (∀ k, K k → R.w0.heap[k]? = W k) ∧ IsSt R s a w ∧ ∀ M, InvM R M → InvM R0 M
variable {R0 : Ref} {K : Nat → Prop} {W : Nat → Option Obj} {n : Nat} {sl : List (Nat × Value)} {s : St} {D : List Deferred}
theorem Kd.heap (h : Kd R0 K W n sl s a w D) {k : Nat} (hk : K k) : w.heap[k]? = W k := by
  obtain ⟨R, h1, h2, h3, _⟩ := h.st
  rw [h3.frame (h1 k hk).1 (h1 k hk).2.1]
  exact h2 k hk
theorem Kd.old (h : Kd R0 K W n sl s a w D) : IsSt R0 s a w := by
  obtain ⟨R, _, _, ⟨M, hM, hb, I, hr⟩, h4⟩ := h.st
  exact ⟨M, hM, hb, h4 M I, hr⟩
theorem Kd.start (h : IsSt R0 s a w) (hs : a.tmps.size = n) (hd : a.defers = D) (hsl : ∀ p ∈ sl, a.tmps.getD p.1 undef = p.2) : Kd R0 (fun _ => False) W n sl s a w D :=
  ⟨fun _ h => h.elim, hs, hd, hsl, R0, fun _ h => h.elim, fun _ h => h.elim, h, fun _ I => I⟩
theorem Kd.world {K' : Nat → Prop} {W' : Nat → Option Obj} {w' : World} (h : Kd R0 K W n sl s a w D) (hK' : ∀ k, K' k → K k ∨ w.heap.size ≤ k) (hlt : ∀ k, K' k → k < w'.heap.size) (hW : ∀ k, K' k → w'.heap[k]? = W' k)
    (hos : w'.os = w.os) (htape : w'.tape = w.tape) (hout : w'.output = w.output) (hsz : w.heap.size ≤ w'.heap.size) (hcell : ∀ k, k < w.heap.size → ¬ K' k → w'.heap[k]? = w.heap[k]?) : Kd R0 K' W' n sl s a w' D := by
  have hg := h.old.grow
  obtain ⟨R, h1, h2, h3, h4⟩ := h.st
  have hn : ∀ k, K' k → R0.w0.heap.size ≤ k := fun k hk => by
    rcases hK' k hk with h5 | h5
    · exact h.new k h5
    · omega
  obtain ⟨R', e, g1, g2, g3⟩ := rebaseK h3 h4 h1 hK' hn hlt hos htape hout hsz hcell
  exact ⟨hn, h.size, h.defers, h.slots, R', g1, fun k hk => by rw [e]; exact hW k hk, g2, g3⟩
theorem Kd.restr {L : LoopSpec} {s' : St} (h : Kd R0 K W n sl s a w D) (hr : restrict L s = some s') : Kd R0 K W n sl s' a w D := by
  obtain ⟨R, h1, h2, h3, h4⟩ := h.st
  exact ⟨h.new, h.size, h.defers, h.slots, R, h1, h2, h3.restr (restrict_spec hr), h4⟩
theorem Kd.keep {k : Nat} {v : Value} (h : Kd R0 K W n sl s a w D) (hl : s.look k = .undef) (hk : k < n) (hd : ∀ p ∈ sl, p.1 ≠ k) : Kd R0 K W n ((k, v) :: sl) s (a.put (some k) v) w D := by
  obtain ⟨R, h1, h2, h3, h4⟩ := h.st
  have hk' : k < a.tmps.size := by rw [h.size]; exact hk
  refine ⟨h.new, (put_size _ _ _).trans h.size, (put_defers' _ _ _).trans h.defers, fun p hp => ?_, R, h1, h2, h3.put_undef hl hk', h4⟩
  rcases List.mem_cons.1 hp with rfl | hp
  · exact put_at hk'
  · exact (put_same hk' (hd p hp)).trans (h.slots p hp)
theorem Kd.less {sl' : List (Nat × Value)} (h : Kd R0 K W n sl s a w D) (hs : ∀ p ∈ sl', p ∈ sl) : Kd R0 K W n sl' s a w D :=
  ⟨h.new, h.size, h.defers, fun p hp => h.slots p (hs p hp), h.st⟩
theorem Kd.op (TOK : TysOK P C.τ) (GOK : CtrsOK P C.Γ) {i : Nat} {o : Oper} {e : Eff} (h : Kd R0 K W n sl s a w D) (ho : ops[i]? = some o) (hg : o.guard = none) (he : opEff C.τ C.Γ (o.dst.getD 0) o (s.args o) = some e) (hn : e.ok) (hk : ∀ k, o.dst = some k → k < n ∧ ∀ p ∈ sl, p.1 ≠ k)
    (hnext : ∀ a' w', Kd R0 K W n sl (s.after o e) a' w' D → RegTo P b ops l Q a' w') : RegTo P b ops (i :: l) Q a w := by
  obtain ⟨R, h1, h2, h3, h4⟩ := h.st
  refine RegTo.op TOK GOK ho hg h3 he hn (fun k hk' => by rw [h.size]; exact (hk k hk').1) fun a' w' h5 h6 => hnext a' w' ⟨h.new, h6.size.trans h.size, h6.defers.trans h.defers, fun p hp => (h6.tmps p.1 (fun hd => (hk p.1 hd).2 p hp rfl)).trans (h.slots p hp), R, h1, h2, h5, h4⟩
def farL (ts : List Nat) (cs : List Code) : Bool := cs.all fun x => (writes x).all fun t => ts.all fun d => !(Nat.beq t d)
theorem farL_out {ts : List Nat} {cs : List Code} (h : farL ts cs = true) {d : Nat} (hd : d ∈ ts) : ∀ x ∈ cs, d ∉ writes x := fun x hx ht => by
  unfold farL at h
  rw [List.all_eq_true] at h
  have h1 := h x hx
  rw [List.all_eq_true] at h1
  have h2 := h1 d ht
  rw [List.all_eq_true] at h2
  have h3 := h2 d hd
  simp at h3
theorem Kd.piece (TOK : TysOK P C.τ) (GC : CtrsOK P C.Γ) (hmix : P.follows .mixedOrders = true) {fn : Func} {res : List GTy} {ts : List (Nat × Sh)} {bs : List (Nat × BSh)} {rest cs : List Code} {G : Option (dens res) × Option (ShT ts × ShB bs) → Prop} (h : Kd R0 K W n sl s a w D) (hcalm : calmL n n cs = true) (hfar : farL (sl.map (·.1)) cs = true) (hG : (pieceT C fn res ts bs cs s).holds G)
    (hret : ∀ y s' a' w', G (some y, none) → IsSt R0 s' a' w' → a'.defers = D → (evRes C fn res (.normal, s')).holds (fun z => z = y) → Q .ret a' w')
    (hgo : ∀ x a' w', G (none, some x) → Kd R0 K W n sl (mkS ts bs x) a' w' D → LTo P b rest Q a' w')
    (hbad : ¬ G (none, none)) (DK : DsOK P C := by exact dsOK_nil rfl) : LTo P b (cs ++ rest) Q a w := by
  obtain ⟨R, h1, h2, h3, h4⟩ := h.st
  have hsz := calmL_wr hcalm
  refine piece_to (DK := DK) TOK GC hmix (calmL_lam hcalm) (fun x hx t ht => by rw [h.size]; exact (hsz x hx t ht).1) h3 hG ?_ ?_ hbad
  · rintro y s' a' w' k1 ⟨M, hM, hb, I, hr⟩ k3 k4
    exact hret y s' a' w' k1 ⟨M, hM, hb, h4 M I, hr⟩ (k3.trans h.defers) k4
  · intro x a' w' k1 k2 k3 k4 k5
    exact hgo x a' w' k1 ⟨h.new, k3.trans h.size, k4.trans h.defers, fun p hp => (k5 p.1 (farL_out hfar (List.mem_map_of_mem hp))).trans (h.slots p hp), R, h1, h2, k2, h4⟩
theorem CodeTo.loop {c : Code} (I : Nat → Act → World → Prop) (n0 : Nat) (h0 : I n0 a w) (round : ∀ n a w, I n a w → CodeTo P b c (Exit.then (fun a' w' => ∃ m, m < n ∧ I m a' w') Q) a w) : CodeTo P b (.loop c) Q a w := by
  intro k cs
  have key : ∀ n a w, I n a w → ∃ e a' w', Q e a' w' ∧ Arrives P (lone (b.at a (.code c :: .inLoop c :: k)) cs w) b k cs e a' w' := by
    intro n
    induction n using Nat.strongRecOn with
    | _ n ih =>
      intro a w hI
      obtain ⟨e, a1, w1, hq, harr⟩ := round n a w hI (.inLoop c :: k) cs
      cases e with
      | normal =>
        obtain ⟨m, hlt, hI1⟩ := hq
        obtain ⟨e2, a2, w2, hq2, harr2⟩ := ih m hlt a1 w1 hI1
        exact ⟨e2, a2, w2, hq2, .of_steps (Steps.trans harr (.one step_inLoop)) harr2⟩
      | exit id => exact ⟨_, a1, w1, hq, .pass (x := .inLoop c) rfl (fun _ _ => .inl (by simp)) harr⟩
      | goto l => exact ⟨_, a1, w1, hq, .pass (x := .inLoop c) rfl (fun _ _ => .inl (by simp)) harr⟩
      | ret => exact ⟨_, a1, w1, hq, .pass (x := .inLoop c) rfl (fun _ _ => .inl (by simp)) harr⟩
      | panic ch => exact ⟨_, a1, w1, hq, .pass (x := .inLoop c) rfl (fun _ _ => .inl (by simp)) harr⟩
      | outgrown => exact ⟨_, a1, w1, hq, .pass (x := .inLoop c) rfl (fun _ _ => .inl (by simp)) harr⟩
  obtain ⟨e, a', w', hq, harr⟩ := key n0 a w h0
  exact ⟨e, a', w', hq, .of_steps (.one step_loop) harr⟩
theorem CodeTo.block {id : Nat} {c : Code} (h : CodeTo P b c (Exit.inBlock id Q) a w) : CodeTo P b (.block id c) Q a w := by
  intro k cs
  obtain ⟨e, a1, w1, hq, harr⟩ := h (.inBlock id :: k) cs
  cases e with
  | normal => exact ⟨.normal, a1, w1, hq, .head step_block (Steps.trans harr (.one step_inBlock))⟩
  | exit id' =>
    by_cases hid : id' = id
    · simp only [Exit.inBlock, hid, if_true] at hq
      exact ⟨.normal, a1, w1, hq, .head step_block (harr k (by simp [exitTo, hid]))⟩
    · simp only [Exit.inBlock, hid, if_false] at hq
      refine ⟨.exit id', a1, w1, hq, fun k' hk => .head step_block (harr k' ?_)⟩
      have : (id == id') = false := by simp; exact fun h => hid h.symm
      simp [exitTo, this, hk]
  | goto l => exact ⟨_, a1, w1, hq, fun k' hk => .head step_block (harr k' (by simp [gotoIn, hk]))⟩
  | ret => exact ⟨_, a1, w1, hq, .of_steps (.one step_block) harr⟩
  | panic ch => exact ⟨_, a1, w1, hq, .of_steps (.one step_block) harr⟩
  | outgrown => exact ⟨_, a1, w1, hq, .of_steps (b := b) (k := k) (cs := cs) (e := .outgrown) (.one step_block) harr⟩
theorem CodeTo.exit {id : Nat} (h : Q (.exit id) a w) : CodeTo P b (.exit id) Q a w := fun _ _ => ⟨.exit id, a, w, h, fun _ hk => .one (step_exit hk)⟩
end
end Go.Ev
/- Two cells that pointers come in to. -/
set_option linter.unusedVariables false
set_option linter.unusedSimpArgs false
namespace Go.Ev
def twoM (w : World) (p q : Nat) (x y : Int) : Mem := ⟨w, fun _ _ => False, fun k => if k = 1 then .pointer (some ⟨p, 0, none⟩) else .pointer (some ⟨q, 0, none⟩), [(1, false, .var (.int .u32) x), (2, false, .var (.int .u32) y)]⟩
def twoR (w : World) (p q : Nat) (hT : Tab (fun _ _ => False) w) : Ref := ⟨w, fun k => k = p ∨ k = q, fun _ _ => False, hT⟩
theorem two_lk {w : World} {p q : Nat} {x y : Int} {b : Nat} {z : Bool × Box} (h : lk b (twoM w p q x y).bs = some z) : b = 1 ∨ b = 2 := by
  by_cases h1 : b = 1
  · exact .inl h1
  · by_cases h2 : b = 2
    · exact .inr h2
    · exfalso
      have e1 : Nat.beq 1 b = false := by
        cases e : Nat.beq 1 b with
        | false => rfl
        | true => exact absurd (Nat.eq_of_beq_eq_true e).symm h1
      have e2 : Nat.beq 2 b = false := by
        cases e : Nat.beq 2 b with
        | false => rfl
        | true => exact absurd (Nat.eq_of_beq_eq_true e).symm h2
      simp only [twoM, lk, e1, e2] at h
      cases h
theorem two_inv {w : World} {hT : Tab (fun _ _ => False) w} {p q : Nat} {e1 e2 : TypeId} {x y : Int} (hpq : p ≠ q) (hp : w.heap[p]? = some (.cells #[.int .u32 x] e1 (0, 0))) (hq : w.heap[q]? = some (.cells #[.int .u32 y] e2 (0, 0))) (hx : IntKind.u32.has x) (hy : IntKind.u32.has y) : InvM (twoR w p q hT) (twoM w p q x y) := by
  refine ⟨rfl, rfl, rfl, Nat.le_refl _, fun _ _ _ => rfl, Keeps.refl _ _, fun b o hs => hs.elim, ?_, ?_⟩
  · intro b d B hB
    by_cases h1 : b = 1
    · subst h1
      have : B = .var (.int .u32) x := by simp [twoM, lk] at hB; exact hB.2.symm
      subst this
      exact ⟨p, _, e1, rfl, hp, ⟨rfl, hx⟩, fun o h => h, .inr (.inl rfl)⟩
    · by_cases h2 : b = 2
      · subst h2
        have : B = .var (.int .u32) y := by simp [twoM, lk] at hB; exact hB.2.symm
        subst this
        exact ⟨q, _, e2, rfl, hq, ⟨rfl, hy⟩, fun o h => h, .inr (.inr rfl)⟩
      · rcases two_lk hB with h | h
        · exact absurd h h1
        · exact absurd h h2
  · intro b c d B d' B' hbc hb hc k hk hk'
    have k1 := two_lk hb
    have k2 := two_lk hc
    rcases k1 with rfl | rfl <;> rcases k2 with rfl | rfl <;> simp [twoM, blkOf] at hk hk' hbc <;> omega
theorem two_end {R : Ref} {s : St} {a : Act} {w : World} {b t p : Nat} {d : Bool} {x : Int} (h : IsSt R s a w) (hb : lk b s.boxes = some (d, .var (.int .u32) x)) (ht : s.look t = .ptr b (.int .u32) []) (ha : a.tmps.getD t undef = .pointer (some ⟨p, 0, none⟩)) :
    ∃ e, w.heap[p]? = some (.cells #[.int .u32 x] e (0, 0)) ∧ IntKind.u32.has x := by
  obtain ⟨M, rfl, hbs, I, hr⟩ := h
  have h1 := hr t
  rw [ht, ha] at h1
  obtain ⟨blk, d', B, h2, h3, h4, h5⟩ := h1
  rw [← hbs] at hb
  obtain ⟨blk', cs, e, g1, g2, g3, g4, g5⟩ := I.boxes b d _ hb
  rw [g1] at h4
  have e1 : blk' = blk := by simpa [blkOf] using h4
  have e2 : p = blk := by simp at h5; exact h5.1
  subst e1
  subst e2
  have g3' : cs.toList = [.int .u32 x] ∧ IntKind.u32.has x := g3
  refine ⟨e, ?_, g3'.2⟩
  rw [g2]
  have : cs = #[.int .u32 x] := by
    apply Array.ext'
    rw [g3'.1]
  rw [this]
theorem finish_any {P : Program} {C : Ctx} (TOK : TysOK P C.τ) {R : Ref} {w' : World} {s' : St} {a' : Act} {fn : Func} {res : List GTy} {y : dens res} (hs : IsSt R s' a' w') (hF : (evRes C fn res (.normal, s')).holds (fun z => z = y)) :
    ∃ v, (results fn a'.tmps).run P w' = .ok v w' ∧ ∃ S, RelRes w' S res y v := by
  obtain ⟨M', rfl, hb', I', hr'⟩ := hs
  simp only [evRes] at hF
  split at hF
  · exact hF.elim
  rename_i aas has
  split at hF
  · exact hF.elim
  rename_i z ws htk
  simp only [Tree.holds] at hF
  subst hF
  obtain ⟨us', q1, q2⟩ := resArgs_sound TOK I' hb' hr' has
  obtain ⟨_, S', fz, henc'⟩ := takes_sound I' q2 htk
  exact ⟨_, results_run q1, S', us', henc', by rcases us' with _ | ⟨u, _ | ⟨v, us⟩⟩ <;> rfl⟩
end Go.Ev
/- The sum, by its closures. -/
set_option linter.unusedVariables false
set_option linter.unusedSimpArgs false
namespace Go.Ev.Z
open Go.Proofs Go.Conc
noncomputable def sumB1 : Code := bodyOf (fnOf Tryz.prog 109)
@[reducible] def smT : List (Nat × Sh) := [(1, .ptr 1 (.int .u32)), (2, .ptr 2 (.int .u32))]
@[reducible] def smM : List (Nat × BSh) := [(1, .var (.int .u32)), (2, .var (.int .u32))]
theorem sum1_tree : (fun x : (Int × Unit) × Int × Int × Unit => pieceT (mkC tys [] []) (fnOf Tryz.prog 109) [] smT smM [sumB1] (mkS [(0, .val (.int .u8)), (1, .ptr 1 (.int .u32)), (2, .ptr 2 (.int .u32))] smM x)) = (fun x => Tree.leaf (none, some ((), Int.tmod (IntKind.wrap IntKind.u32 (x.2.1 + IntKind.wrap IntKind.u32 x.1.1)) (65521 : Int), Int.tmod (IntKind.wrap IntKind.u32 (x.2.2.1 + Int.tmod (IntKind.wrap IntKind.u32 (x.2.1 + IntKind.wrap IntKind.u32 x.1.1)) (65521 : Int))) (65521 : Int), ()))) := by kernel_rfl
attribute [local irreducible] fnOf bodyOf
/- One byte more: the closure writes its two cells, and nothing else. -/
theorem sum1_calls {w : World} {p q : Nat} {e1 e2 : TypeId} {c : UInt8} {x y : Int} (hpq : p ≠ q) (hp : w.heap[p]? = some (.cells #[.int .u32 x] e1 (0, 0))) (hq : w.heap[q]? = some (.cells #[.int .u32 y] e2 (0, 0))) (hx : IntKind.u32.has x) (hy : IntKind.u32.has y) :
    Calls Tryz.prog 109 #[.int .u8 (c.toNat : Int), .pointer (some ⟨p, 0, none⟩), .pointer (some ⟨q, 0, none⟩)] w fun e w' => e = .returned (.tuple #[]) ∧
      w'.os = w.os ∧ w'.tape = w.tape ∧ w'.output = w.output ∧ w.heap.size ≤ w'.heap.size ∧ (∀ k, k < w.heap.size → k ≠ p → k ≠ q → w'.heap[k]? = w.heap[k]?) ∧
      (∃ e, w'.heap[p]? = some (.cells #[.int .u32 (addB (y, x) c).2] e (0, 0))) ∧ (∃ e, w'.heap[q]? = some (.cells #[.int .u32 (addB (y, x) c).1] e (0, 0))) := by
  have hf := fnOf_eq (P := Tryz.prog) (f := 109) (by kernel_rfl)
  have hn : (fnOf Tryz.prog 109).ntmps = 13 := by kernel_rfl
  refine calls_of_to hf (bodyOf_eq (by kernel_rfl)) ?_
  have hres : (fnOf Tryz.prog 109).results = #[] := by kernel_rfl
  rw [hn]
  generalize ha : ({ tmps := #[.int .u8 (c.toNat : Int), .pointer (some ⟨p, 0, none⟩), .pointer (some ⟨q, 0, none⟩)] ++ Array.replicate (13 - 3) undef, defers := [] } : Act) = a0
  have hsz : a0.tmps.size = 13 := by rw [← ha]; simp
  have hd0 : a0.defers = [] := by rw [← ha]
  have t1 : a0.tmps.getD 1 undef = .pointer (some ⟨p, 0, none⟩) := by rw [← ha]; rfl
  have t2 : a0.tmps.getD 2 undef = .pointer (some ⟨q, 0, none⟩) := by rw [← ha]; rfl
  have t0 : a0.tmps.getD 0 undef = .int .u8 (c.toNat : Int) := by rw [← ha]; rfl
  have hc : IntKind.u8.has (c.toNat : Int) := by rw [has_u8]; have := c.toNat_lt; omega
  have hst : IsSt (twoR w p q tab_any) (mkS [(0, .val (.int .u8)), (1, .ptr 1 (.int .u32)), (2, .ptr 2 (.int .u32))] smM (((c.toNat : Int), ()), x, y, ())) a0 w := by
    refine ⟨twoM w p q x y, rfl, rfl, two_inv hpq hp hq hx hy, fun t => ?_⟩
    rcases (by omega : t = 0 ∨ t = 1 ∨ t = 2 ∨ 3 ≤ t) with rfl | rfl | rfl | ht
    · rw [t0]; exact ⟨_, ⟨rfl, hc⟩, rfl⟩
    · rw [t1]; exact ⟨p, _, _, rfl, ⟨rfl, trivial⟩, rfl, rfl⟩
    · rw [t2]; exact ⟨q, _, _, rfl, ⟨rfl, trivial⟩, rfl, rfl⟩
    · have : (mkS [(0, .val (.int .u8)), (1, .ptr 1 (.int .u32)), (2, .ptr 2 (.int .u32))] smM (((c.toNat : Int), ()), x, y, ())).look t = .undef := by
        have f : ∀ j, j < 3 → Nat.beq j t = false := fun j hj => by
          cases e : Nat.beq j t with
          | false => rfl
          | true => have := Nat.eq_of_beq_eq_true e; omega
        simp only [mkS, mkT, St.look, lk, f 0 (by omega), f 1 (by omega), f 2 (by omega)]
        rfl
      rw [this]; simp [RelV]
  have hcalm : calmL 13 60 [sumB1] = true := by kernel_rfl
  have hfar : farL [1, 2] [sumB1] = true := by kernel_rfl
  refine then_id ?_
  show LTo Tryz.prog _ ([sumB1] ++ []) _ a0 w
  refine piece_to (C := mkC tys [] []) tysOK ctrs_nil mixed (fn := fnOf Tryz.prog 109) (res := []) (ts := smT) (bs := smM) (G := fun z => z = (none, some ((), (addB (y, x) c).2, (addB (y, x) c).1, ()))) (calmL_lam hcalm) (fun y hy t ht => by rw [hsz]; exact (calmL_wr hcalm y hy t ht).1) hst ?_ ?_ ?_ ?_
  · rw [congrFun sum1_tree _]
    rfl
  · intro y s' a' w' h; cases h
  · intro z a' w' hz k1 k2 k3 k4
    simp only [Prod.mk.injEq, Option.some.injEq, true_and] at hz
    subst hz
    have s1 := k4 1 (farL_out hfar (by simp))
    have s2 := k4 2 (farL_out hfar (by simp))
    have g1 := two_end (b := 1) (t := 1) (p := p) k1 rfl rfl (s1.trans t1)
    have g2 := two_end (b := 2) (t := 2) (p := q) k1 rfl rfl (s2.trans t2)
    obtain ⟨M, rfl, hbs, I, hr⟩ := k1
    refine ⟨.inl rfl, k3.trans hd0, .tuple #[], by simp [results, hres], rfl, I.os, I.tape, I.output, I.size, fun k hk h1 h2 => I.frame k hk (fun h => h.elim h1 h2), ?_, ?_⟩
    · obtain ⟨e, g, _⟩ := g1; exact ⟨e, g⟩
    · obtain ⟨e, g, _⟩ := g2; exact ⟨e, g⟩
  · intro h; cases h
noncomputable def sumB2 : Code := bodyOf (fnOf Tryz.prog 110)
theorem sum2_tree : (fun x : Unit × Int × Int × Unit => pieceT (mkC tys [] []) (fnOf Tryz.prog 110) [.int .u32] [] [] [sumB2] (mkS [(0, .ptr 1 (.int .u32)), (1, .ptr 2 (.int .u32))] smM x)) = (fun x => Tree.leaf (some (IntKind.wrap IntKind.u32 (IntKind.wrap IntKind.u32 (x.2.1 * (65536 : Int)) + x.2.2.1)), none)) := by kernel_rfl
/- What the two halves tell together. -/
theorem sum2_calls {w : World} {p q : Nat} {e1 e2 : TypeId} {x y : Int} (hpq : p ≠ q) (hp : w.heap[p]? = some (.cells #[.int .u32 x] e1 (0, 0))) (hq : w.heap[q]? = some (.cells #[.int .u32 y] e2 (0, 0))) (hx : IntKind.u32.has x) (hy : IntKind.u32.has y) :
    Calls Tryz.prog 110 #[.pointer (some ⟨p, 0, none⟩), .pointer (some ⟨q, 0, none⟩)] w fun e w' => e = .returned (.int .u32 (IntKind.wrap .u32 (IntKind.wrap .u32 (x * 65536) + y))) ∧
      w'.os = w.os ∧ w'.tape = w.tape ∧ w'.output = w.output ∧ w.heap.size ≤ w'.heap.size ∧ (∀ k, k < w.heap.size → k ≠ p → k ≠ q → w'.heap[k]? = w.heap[k]?) := by
  have hf := fnOf_eq (P := Tryz.prog) (f := 110) (by kernel_rfl)
  have hn : (fnOf Tryz.prog 110).ntmps = 7 := by kernel_rfl
  refine calls_of_to hf (bodyOf_eq (by kernel_rfl)) ?_
  rw [hn]
  generalize ha : ({ tmps := #[.pointer (some ⟨p, 0, none⟩), .pointer (some ⟨q, 0, none⟩)] ++ Array.replicate (7 - 2) undef, defers := [] } : Act) = a0
  have hsz : a0.tmps.size = 7 := by rw [← ha]; simp
  have hd0 : a0.defers = [] := by rw [← ha]
  have t0 : a0.tmps.getD 0 undef = .pointer (some ⟨p, 0, none⟩) := by rw [← ha]; rfl
  have t1 : a0.tmps.getD 1 undef = .pointer (some ⟨q, 0, none⟩) := by rw [← ha]; rfl
  have hst : IsSt (twoR w p q tab_any) (mkS [(0, .ptr 1 (.int .u32)), (1, .ptr 2 (.int .u32))] smM ((), x, y, ())) a0 w := by
    refine ⟨twoM w p q x y, rfl, rfl, two_inv hpq hp hq hx hy, fun t => ?_⟩
    rcases (by omega : t = 0 ∨ t = 1 ∨ 2 ≤ t) with rfl | rfl | ht
    · rw [t0]; exact ⟨p, _, _, rfl, ⟨rfl, trivial⟩, rfl, rfl⟩
    · rw [t1]; exact ⟨q, _, _, rfl, ⟨rfl, trivial⟩, rfl, rfl⟩
    · have : (mkS [(0, .ptr 1 (.int .u32)), (1, .ptr 2 (.int .u32))] smM ((), x, y, ())).look t = .undef := by
        have f : ∀ j, j < 2 → Nat.beq j t = false := fun j hj => by
          cases e : Nat.beq j t with
          | false => rfl
          | true => have := Nat.eq_of_beq_eq_true e; omega
        simp only [mkS, mkT, St.look, lk, f 0 (by omega), f 1 (by omega)]
        rfl
      rw [this]; simp [RelV]
  have hcalm : calmL 7 60 [sumB2] = true := by kernel_rfl
  refine then_id ?_
  show LTo Tryz.prog _ ([sumB2] ++ []) _ a0 w
  refine piece_to (C := mkC tys [] []) tysOK ctrs_nil mixed (fn := fnOf Tryz.prog 110) (res := [.int .u32]) (ts := []) (bs := []) (G := fun z => z = (some (IntKind.wrap .u32 (IntKind.wrap .u32 (x * 65536) + y)), none)) (calmL_lam hcalm) (fun y hy t ht => by rw [hsz]; exact (calmL_wr hcalm y hy t ht).1) hst ?_ ?_ ?_ ?_
  · rw [congrFun sum2_tree _]
    rfl
  · intro z s' a' w' hz k1 k2 k3
    simp only [Prod.mk.injEq, Option.some.injEq, and_true] at hz
    subst hz
    obtain ⟨v, g1, S, us, g2, g3⟩ := finish_any tysOK k1 k3
    obtain ⟨cs, g4, rfl⟩ := g2
    have g5 : cs = [.int .u32 (IntKind.wrap .u32 (IntKind.wrap .u32 (x * 65536) + y))] := g4.1
    subst g5
    obtain ⟨M, rfl, hbs, I, hr⟩ := k1
    exact ⟨.inr rfl, k2.trans hd0, v, g1, by rw [g3]; rfl, I.os, I.tape, I.output, I.size, fun k hk h1 h2 => I.frame k hk (fun h => h.elim h1 h2)⟩
  · intro y a' w' h; cases h
  · intro h; cases h
end Go.Ev.Z
/- The sum's beginning. -/
set_option linter.unusedVariables false
set_option linter.unusedSimpArgs false
namespace Go.Ev.Z
open Go.Proofs Go.Conc
noncomputable def sumL0 : List Code := (seqs (bodyOf (fnOf Tryz.prog 106))).dropLast
noncomputable def sumS0 (n : Int) : St := match evL (mkC tys [] []) sumL0 { tmps := number 0 (resL [.int .u32] n), boxes := [] } with
  | .leaf p => p.2
  | _ => { tmps := [], boxes := [] }
theorem sum0_ev (n : Int) : evL (mkC tys [] []) sumL0 { tmps := number 0 (resL [.int .u32] n), boxes := [] } = .leaf (.normal, sumS0 n) := by kernel_rfl
theorem sum0_all : seqs (bodyOf (fnOf Tryz.prog 106)) = sumL0 ++ [.ret] := by kernel_rfl
theorem sum0_2 (n : Int) : (sumS0 n).look 2 = .clo 109 [.ptr 5 (.int .u32) [], .ptr 4 (.int .u32) []] := by kernel_rfl
theorem sum0_3 (n : Int) : (sumS0 n).look 3 = .clo 110 [.ptr 4 (.int .u32) [], .ptr 5 (.int .u32) []] := by kernel_rfl
theorem sum0_4 (n : Int) : (lk 4 (sumS0 n).boxes).map (·.2) = some (.var (.int .u32) (startS n).1) := by kernel_rfl
theorem sum0_5 (n : Int) : (lk 5 (sumS0 n).boxes).map (·.2) = some (.var (.int .u32) (startS n).2) := by kernel_rfl
end Go.Ev.Z
/- The sum's beginning, as a call: two closures over two fresh cells. -/
set_option linter.unusedVariables false
set_option linter.unusedSimpArgs false
namespace Go.Ev.Z
open Go.Proofs Go.Conc
theorem sum0_res : (fnOf Tryz.prog 106).results = #[.tmp 2, .tmp 3] := by kernel_rfl
theorem sum0_calm : calmL 18 60 sumL0 = true := by kernel_rfl
theorem sum0_n : (fnOf Tryz.prog 106).ntmps = 18 := by kernel_rfl
/- What its two closures are. -/
def addV (p q : Nat) : Value := .func (.func 109) #[] #[.pointer (some ⟨q, 0, none⟩), .pointer (some ⟨p, 0, none⟩)]
def telV (p q : Nat) : Value := .func (.func 110) #[] #[.pointer (some ⟨p, 0, none⟩), .pointer (some ⟨q, 0, none⟩)]
structure TwoC (w : World) (p q : Nat) (x y : Int) : Prop where
  ne : p ≠ q
  fst : ∃ e, w.heap[p]? = some (.cells #[.int .u32 x] e (0, 0))
  snd : ∃ e, w.heap[q]? = some (.cells #[.int .u32 y] e (0, 0))
  hx : IntKind.u32.has x
  hy : IntKind.u32.has y
theorem ptr_box {R : Ref} {M : Mem} (I : InvM R M) {b : Nat} {x : Int} {u : Value} {d : Bool} (hb : lk b M.bs = some (d, .var (.int .u32) x)) (hu : RelV M (.ptr b (.int .u32) []) u) :
    ∃ p e, u = .pointer (some ⟨p, 0, none⟩) ∧ blkOf (M.β b) = some p ∧ M.w.heap[p]? = some (.cells #[.int .u32 x] e (0, 0)) ∧ IntKind.u32.has x ∧ R.new p := by
  obtain ⟨blk, d', B, h2, h3, h4, h5⟩ := hu
  obtain ⟨blk', cs, e, g1, g2, g3, g4, g5⟩ := I.boxes b d _ hb
  have e1 : blk' = blk := by rw [g1] at h4; simpa [blkOf] using h4
  subst e1
  have g3' : cs.toList = [.int .u32 x] ∧ IntKind.u32.has x := g3
  have e2 : cs = #[.int .u32 x] := by
    apply Array.ext'
    rw [g3'.1]
  subst e2
  exact ⟨blk', e, h5, h4, g2, g3'.2, g5⟩
attribute [local irreducible] fnOf bodyOf sumL0 sumS0
theorem summer_calls (w : World) {n : Int} (hn : IntKind.u32.has n) : Calls Tryz.prog 106 #[.int .u32 n] w fun e w' => ∃ p q, e = .returned (.tuple #[addV p q, telV p q]) ∧
    w'.os = w.os ∧ w'.tape = w.tape ∧ w'.output = w.output ∧ w.heap.size ≤ w'.heap.size ∧ (∀ k, k < w.heap.size → w'.heap[k]? = w.heap[k]?) ∧ w.heap.size ≤ p ∧ w.heap.size ≤ q ∧ TwoC w' p q (startS n).1 (startS n).2 := by
  have hf := fnOf_eq (P := Tryz.prog) (f := 106) (by kernel_rfl)
  refine calls_of_to hf (bodyOf_eq (by kernel_rfl)) ?_
  have h0 := start_st (w := w) (S := fun _ _ => False) (us := [.int .u32 n]) (gs := [.int .u32]) (x := n) (fun _ _ h => h.elim) tab_any ⟨[.int .u32 n], ⟨rfl, hn⟩, rfl⟩ (fnOf Tryz.prog 106).ntmps
  refine CodeTo.seqs ?_
  rw [sum0_all]
  generalize ha : ({ tmps := #[.int .u32 n] ++ Array.replicate ((fnOf Tryz.prog 106).ntmps - #[Value.int .u32 n].size) undef, defers := [] } : Act) = a0
  have h0' : IsSt ⟨w, fun _ => False, fun _ _ => False, tab_any⟩ { tmps := number 0 (resL [.int .u32] n), boxes := [] } a0 w := by rw [← ha]; exact h0
  have hsz : a0.tmps.size = 18 := by rw [← ha, sum0_n]; simp
  have hd0 : a0.defers = [] := by rw [← ha]
  refine evL_to (C := mkC tys [] []) tysOK ctrs_nil mixed (F := fun p => p = (.normal, sumS0 n)) sumL0 _ a0 w (calmL_lam sum0_calm) (fun y hy t ht => by rw [hsz]; exact (calmL_wr sum0_calm y hy t ht).1) h0' ?_ ?_
  · rw [sum0_ev]; rfl
  · rintro z s' a' w' hz h1 h2 h3 h4
    obtain ⟨rfl, rfl⟩ := Prod.mk.inj hz
    refine then_id (CodeTo.of_wp (wp_ret ?_))
    obtain ⟨M, rfl, hbs, I, hr⟩ := h1
    have r2 := hr 2
    rw [sum0_2] at r2
    have r3 := hr 3
    rw [sum0_3] at r3
    obtain ⟨vs, e2, q2⟩ := r2
    obtain ⟨us, e3, q3⟩ := r3
    obtain ⟨⟨d4, B4⟩, l4, e4⟩ := Option.map_eq_some_iff.1 (sum0_4 n)
    obtain ⟨⟨d5, B5⟩, l5, e5⟩ := Option.map_eq_some_iff.1 (sum0_5 n)
    simp only at e4 e5
    subst e4 e5
    rw [← hbs] at l4 l5
    obtain ⟨vl⟩ := vs
    obtain ⟨ul⟩ := us
    match vl, q2 with
    | [v5, v4], q2 =>
      match ul, q3 with
      | [u4, u5], q3 =>
        obtain ⟨a5, a4, -⟩ := q2
        obtain ⟨c4, c5, -⟩ := q3
        obtain ⟨p, e, rfl, p1, p2, p3, p4⟩ := ptr_box I l4 a4
        obtain ⟨q, f, rfl, p5, p6, p7, p8⟩ := ptr_box I l5 a5
        obtain ⟨p', e', rfl, p9, -⟩ := ptr_box I l4 c4
        obtain ⟨q', f', rfl, p10, -⟩ := ptr_box I l5 c5
        obtain rfl : p' = p := by rw [p9] at p1; exact Option.some.inj p1
        obtain rfl : q' = q := by rw [p10] at p5; exact Option.some.inj p5
        refine ⟨.inr rfl, h3.trans hd0, .tuple #[addV p' q', telV p' q'], ?_, p', q', rfl, I.os, I.tape, I.output, I.size, fun k hk => I.frame k hk id, ?_, ?_, ?_⟩
        · have k2 : (resF a'.tmps (.tmp 2)).run Tryz.prog M.w = .ok (addV p' q') M.w := by
            show Result.ok (a'.tmps.getD 2 undef) M.w = _
            rw [e2]; rfl
          have k3 : (resF a'.tmps (.tmp 3)).run Tryz.prog M.w = .ok (telV p' q') M.w := by
            show Result.ok (a'.tmps.getD 3 undef) M.w = _
            rw [e3]; rfl
          exact results_run (us := [addV p' q', telV p' q']) (by
            rw [sum0_res]
            show (List.mapM (resF a'.tmps) [.tmp 2, .tmp 3]).run _ _ = _
            rw [List.mapM_cons, List.mapM_cons, List.mapM_nil]
            simp only [Sem.run_bind, k2, k3, Result.andThen_ok]
            rfl)
        · exact p4.elim id False.elim
        · exact p8.elim id False.elim
        · refine ⟨fun h => ?_, ⟨e, p2⟩, ⟨f, p6⟩, p3, p7⟩
          subst h
          exact I.sep 4 5 _ _ _ _ (by decide) l4 l5 _ p1 p5
end Go.Ev.Z
/- A call beside the evaluator: of a function, or of a function value, whose Calls is given. -/
set_option linter.unusedVariables false
set_option linter.unusedSimpArgs false
namespace Go.Ev
open Go.Conc
theorem yields_call {P : Program} {ρ : Operand → Value} {o : Oper} {w : World} {K : Value → World → Prop} {x : Operand} {aas : Array Operand} {ts : Array TypeId} {f : Nat} {caps : Array Value} {fn : Func} {R : Ending → World → Prop}
    (ho : o.op = .call { callee := .value x, args := aas, argTypes := ts }) (hx : ρ x = .func (.func f) #[] caps) (hf : P.funcs[f]? = some fn) (hb : fn.body.isNone = false) (hn : (fn.name == "runtime.NumGoroutine") = false)
    (h : Calls P f (aas.map ρ ++ caps) w R) (hR : ∀ e w', R e w' → ∃ v, e = .returned v ∧ K v w') : Yields P ρ o w K := by
  have hrun : (execOp ρ o).run P w = .ok (.enter f (aas.map ρ ++ caps)) w := by
    simp only [execOp, ho, resolve, hx, Deferred.ofValue, Sem.run_bind]
    have h2' : ¬ fn.body = none := by intro hh; rw [hh] at hb; simp at hb
    have h3' : ¬ fn.name = "runtime.NumGoroutine" := by simpa using hn
    simp [invoke, callFunc, hf, h2', h3']
  unfold Yields
  rw [hrun]
  exact h.mono hR
section
variable {P : Program} {C : Ctx} {b : Frame} {Q : Exit → Act → World → Prop} {a : Act} {w : World} {ops : Array Oper} {l : List Nat} {R0 : Ref} {K : Nat → Prop} {W : Nat → Option Obj} {n : Nat} {sl : List (Nat × Value)} {s : St} {D : List Deferred}
theorem RegTo.extract {i j : Nat} {o : Oper} {x : Operand} {vs : Array Value} {v : Value} (ho : ops[i]? = some o) (hg : o.guard = none) (hop : o.op = .extract x j) (hx : a.eval x = .tuple vs) (hv : vs[j]? = some v) (h : RegTo P b ops l Q (a.put o.dst v) w) : RegTo P b ops (i :: l) Q a w := by
  refine RegTo.value ho hg (v := v) (w' := w) ?_ h
  unfold execOp
  rw [hop]
  simp [hx, hv, Instr.extract]
theorem RegTo.moved {i : Nat} {o : Oper} {x : Operand} (ho : ops[i]? = some o) (hg : o.guard = none) (hop : o.op = .move x ∨ o.op = .assign x) (h : RegTo P b ops l Q (a.put o.dst (a.eval x)) w) : RegTo P b ops (i :: l) Q a w := by
  refine RegTo.value ho hg (v := a.eval x) (w' := w) ?_ h
  unfold execOp
  rcases hop with hop | hop <;> rw [hop] <;> rfl
theorem Kd.call {i f : Nat} {o : Oper} {x : Operand} {ar : Array Operand} {ts : Array TypeId} {caps args : Array Value} {fn : Func} {R : Ending → World → Prop} (h : Kd R0 K W n sl s a w D)
    (ho : ops[i]? = some o) (hg : o.guard = none) (hop : o.op = .call { callee := .value x, args := ar, argTypes := ts }) (hx : a.eval x = .func (.func f) #[] caps) (hargs : ar.map a.eval ++ caps = args) (hf : P.funcs[f]? = some fn) (hb : fn.body.isNone = false) (hn : (fn.name == "runtime.NumGoroutine") = false)
    (hc : Calls P f args w R)
    (hR : ∀ e w', R e w' → ∃ v K' W', e = .returned v ∧ (∀ k, K' k → K k ∨ w.heap.size ≤ k) ∧ (∀ k, K' k → k < w'.heap.size) ∧ (∀ k, K' k → w'.heap[k]? = W' k) ∧ w'.os = w.os ∧ w'.tape = w.tape ∧ w'.output = w.output ∧ w.heap.size ≤ w'.heap.size ∧ (∀ k, k < w.heap.size → ¬ K' k → w'.heap[k]? = w.heap[k]?) ∧
      (Kd R0 K' W' n sl s a w' D → RegTo P b ops l Q (a.put o.dst v) w')) : RegTo P b ops (i :: l) Q a w := by
  refine RegTo.yields ho hg (K := fun v w' => RegTo P b ops l Q (a.put o.dst v) w') (yields_call hop hx hf hb hn (hargs ▸ hc) fun e w' hr => ?_) (fun v w' hv => hv)
  obtain ⟨v, K', W', h1, h2, h3, h4, h5, h6, h7, h8, h9, h10⟩ := hR e w' hr
  exact ⟨v, h1, h10 (h.world h2 h3 h4 h5 h6 h7 h8 h9)⟩
theorem LTo.cons {c : Code} {cs : List Code} (h : CodeTo P b c (Exit.then (LTo P b cs Q) Q) a w) : LTo P b (c :: cs) Q a w := h
theorem Kd.known {k : Nat} {v : Value} {av : AV} (h : Kd R0 K W n sl s a w D) (hv : ∀ M, RelV M av v) (hk : k < n) (hd : ∀ p ∈ sl, p.1 ≠ k) : Kd R0 K W n sl (s.put k av) (a.put (some k) v) w D := by
  obtain ⟨R, h1, h2, h3, h4⟩ := h.st
  have hk' : k < a.tmps.size := by rw [h.size]; exact hk
  exact ⟨h.new, (put_size _ _ _).trans h.size, (put_defers' _ _ _).trans h.defers, fun p hp => (put_same hk' (hd p hp)).trans (h.slots p hp), R, h1, h2, h3.put_known hv hk', h4⟩
def opsT (C : Ctx) (ts : List (Nat × Sh)) (bs : List (Nat × BSh)) (l : List Oper) (s : St) : Tree (Option (ShT ts × ShB bs)) :=
  (runOps C l s).bind fun s' => match restrict { prom := [], keep := ts.map (·.1), boxes := bs.map (·.1), sum := fun _ => .stuck } s' with
    | none => .stuck
    | some s'' => .leaf (unS ts bs s'')
def farO (n : Nat) (ds : List Nat) (l : List Oper) : Bool := l.all fun o => o.guard.isNone && match o.dst with
  | some d => Nat.blt d n && ds.all fun t => !(Nat.beq t d)
  | none => true
theorem Kd.ops_run (TOK : TysOK P C.τ) (GOK : CtrsOK P C.Γ) {F : St → Prop} {l2 : List Nat} : ∀ (l1 : List Nat) {s : St} {a : Act} {w : World}, Kd R0 K W n sl s a w D → (∀ i ∈ l1, i < ops.size) → farO n (sl.map (·.1)) (l1.map fun i => ops.getD i default) = true → (runOps C (l1.map fun i => ops.getD i default) s).holds F →
    (∀ s' a' w', F s' → Kd R0 K W n sl s' a' w' D → RegTo P b ops l2 Q a' w') → RegTo P b ops (l1 ++ l2) Q a w
  | [], s, a, w, h, _, _, hF, hgo => hgo s a w hF h
  | i :: l1, s, a, w, h, hi, hfar, hF, hgo => by
    have hlt := hi i (by simp)
    have ho : ops[i]? = some (ops.getD i default) := by simp [hlt]
    generalize ops.getD i default = o at *
    have ho2 : ops.getD i default = o := by simp [Array.getD_eq_getD_getElem?, ho]
    simp only [List.map_cons, ho2] at hfar hF
    unfold farO at hfar
    rw [List.all_cons, Bool.and_eq_true, Bool.and_eq_true] at hfar
    obtain ⟨⟨hg, hd⟩, hrest⟩ := hfar
    simp only [runOps] at hF
    split at hF
    · exact hF.elim
    · rename_i e he
      have hF' : e.ok ∧ (runOps C (l1.map fun i => ops.getD i default) (s.after o e)).holds F := by
        cases hn : e.need with
        | none =>
          rw [hn] at hF
          exact ⟨(fun p hp => by rw [hn] at hp; cases hp), hF⟩
        | some p =>
          rw [hn] at hF
          exact ⟨(fun q hq => by rw [hn] at hq; cases hq; exact hF.1), hF.2⟩
      refine h.op TOK GOK ho (by simpa using hg) he hF'.1 (fun k hk => ?_) fun a' w' h' => Kd.ops_run TOK GOK l1 h' (fun j hj => hi j (by simp [hj])) (by unfold farO; exact hrest) hF'.2 hgo
      rw [hk] at hd
      simp only [Bool.and_eq_true, Nat.blt_eq] at hd
      refine ⟨hd.1, fun p hp => ?_⟩
      have := List.all_eq_true.1 hd.2 p.1 (List.mem_map_of_mem hp)
      intro e
      rw [e] at this
      simp at this
theorem Kd.opsL (TOK : TysOK P C.τ) (GOK : CtrsOK P C.Γ) {ts : List (Nat × Sh)} {bs : List (Nat × BSh)} {G : Option (ShT ts × ShB bs) → Prop} {l2 : List Nat} (l1 : List Nat) (h : Kd R0 K W n sl s a w D) (hi : (l1.all fun i => Nat.blt i ops.size) = true) (hfar : farO n (sl.map (·.1)) (l1.map fun i => ops.getD i default) = true)
    (hG : (opsT C ts bs (l1.map fun i => ops.getD i default) s).holds G) (hgo : ∀ x a' w', G (some x) → Kd R0 K W n sl (mkS ts bs x) a' w' D → RegTo P b ops l2 Q a' w') (hbad : ¬ G none) : RegTo P b ops (l1 ++ l2) Q a w := by
  refine h.ops_run TOK GOK l1 (fun i hm => ?_) hfar (holds_bind.1 hG) fun s' a' w' hF h' => ?_
  · have := List.all_eq_true.1 hi i hm
    simpa [Nat.blt_eq] using this
  · split at hF
    · exact hF.elim
    · rename_i s'' hr
      have h5 := h'.restr hr
      simp only [Tree.holds] at hF
      cases hu : unS ts bs s'' with
      | none => rw [hu] at hF; exact absurd hF hbad
      | some x =>
        rw [hu] at hF
        have := unS_eq hu
        subst this
        exact hgo x a' w' hF h5
end
theorem known_i64 {R : Ref} {s : St} {a : Act} {w : World} {t : Nat} {n : Int} (h : IsSt R s a w) (hl : s.look t = .val (.int .i64) n) : a.tmps.getD t undef = .int .i64 n := by
  obtain ⟨M, _, _, _, hr⟩ := h
  have := hr t
  rw [hl] at this
  obtain ⟨cs, h1, h2⟩ := this
  have h3 : cs = [.int .i64 n] := h1.1
  subst h3
  exact h2
def rThen : Code → Code
  | .cond _ x _ => x
  | _ => .skip
def rIn : Code → Code
  | .block _ c => c
  | _ => .skip
def rOps : Code → Array Oper
  | .region _ ops _ => ops
  | _ => #[]
def rOp (c : Code) (i : Nat) : Oper := (rOps c).getD i default
def rNth (c : Code) (i : Nat) : Code := (seqs c).getD i .skip
end Go.Ev
/- The sum of more bytes: the loop that calls one closure, and the other at its end. -/
set_option linter.unusedVariables false
set_option linter.unusedSimpArgs false
namespace Go.Ev.Z
open Go.Proofs Go.Conc
noncomputable def moB (i : Nat) : Code := rNth (bodyOf (fnOf Tryz.prog 98)) i
noncomputable def moL (i : Nat) : Code := rNth (loopB 0 (bodyOf (fnOf Tryz.prog 98))) i
noncomputable def moI (i : Nat) : Code := rNth (rIn (moL 2)) i
@[reducible] def moT0 : List (Nat × Sh) := [(0, .val (.int .u32)), (1, .val .str)]
@[reducible] def moT9 : List (Nat × Sh) := [(1, .val .str), (9, .val (.int .u32))]
@[reducible] def moT1 : List (Nat × Sh) := [(1, .val .str)]
@[reducible] def moT : List (Nat × Sh) := [(1, .val .str), (14, .val (.int .i64)), (15, .val (.int .i64))]
@[reducible] def moTx (t : Nat) (g : GTy) : List (Nat × Sh) := [(1, .val .str), (14, .val (.int .i64)), (15, .val (.int .i64)), (t, .val g)]
@[reducible] def moR (t : Nat) : List (Nat × Sh) := [(t, .val (.int .u32))]
theorem mo0_tree : (fun x : Int × List UInt8 => pieceT (mkC tys [] []) (fnOf Tryz.prog 98) [.int .u32] moT0 [] [moB 0] { tmps := number 0 (resL [.int .u32, .str] x), boxes := [] }) = (fun x => Tree.leaf (none, some ((x.1, x.2, ()), ()))) := by kernel_rfl
theorem mo9_tree : (fun x : (Int × List UInt8 × Unit) × Unit => opsT (mkC tys [] []) moT9 [] [rOp (moB 1) 0] (mkS moT0 [] x)) = (fun x => Tree.leaf (some ((x.1.2.1, x.1.1, ()), ()))) := by kernel_rfl
theorem mo2_tree : (fun x : (List UInt8 × Unit) × Unit => pieceT (mkC tys [] []) (fnOf Tryz.prog 98) [.int .u32] moT [] [moB 2] (mkS moT1 [] x)) = (fun x => Tree.leaf (none, some ((x.1.1, (↑(List.length x.1.1) : Int), (0 : Int), ()), ()))) := by kernel_rfl
theorem mo3_tree : (fun x : (List UInt8 × Int × Int × Unit) × Unit => pieceT (mkC tys [] []) (fnOf Tryz.prog 98) [.int .u32] (moTx 16 .bool) [] [moL 0] (mkS moT [] x)) = (fun x => Tree.leaf (none, some ((x.1.1, x.1.2.1, x.1.2.2.1, decide (x.1.2.2.1 < x.1.2.1), ()), ()))) := by kernel_rfl
theorem mo4_tree : (fun x : (List UInt8 × Int × Int × Unit) × Unit => pieceT (mkC tys [] []) (fnOf Tryz.prog 98) [.int .u32] (moTx 7 (.int .i64)) [] [moI 0] (mkS moT [] x)) = (fun x => Tree.leaf (none, some ((x.1.1, x.1.2.1, x.1.2.2.1, x.1.2.2.1, ()), ()))) := by kernel_rfl
theorem mo5_tree : (fun x : (List UInt8 × Int × Int × Int × Unit) × Unit => opsT (mkC tys [] []) (moTx 21 (.int .u8)) [] [rOp (moI 1) 1, rOp (moI 1) 2, rOp (moI 1) 3] (mkS (moTx 7 (.int .i64)) [] x)) = (fun x => Tree.need ((0 : Int) ≤ x.1.2.2.2.1 ∧ x.1.2.2.2.1 < (↑(List.length x.1.1) : Int)) (Tree.leaf (some ((x.1.1, x.1.2.1, x.1.2.2.1, (↑(UInt8.toNat (List.getD x.1.1 (Int.toNat x.1.2.2.2.1) (0 : UInt8))) : Int), ()), ())))) := by kernel_rfl
theorem mo6_tree : (fun x : (List UInt8 × Int × Int × Unit) × Unit => pieceT (mkC tys [] []) (fnOf Tryz.prog 98) [.int .u32] moT [] [moL 3] (mkS moT [] x)) = (fun x => Tree.leaf (none, some ((x.1.1, x.1.2.1, IntKind.wrap IntKind.i64 (x.1.2.2.1 + (1 : Int)), ()), ()))) := by kernel_rfl
theorem mo7_tree : (fun x : (Int × Unit) × Unit => opsT (mkC tys [] []) (moR 4) [] [rOp (moB 4) 2] (mkS (moR 25) [] x)) = (fun x => Tree.leaf (some ((x.1.1, ()), ()))) := by kernel_rfl
end Go.Ev.Z
/- Sums of bytes, in plain Lean: their bounds, and what one byte turns. -/
set_option linter.unusedVariables false
set_option linter.unusedSimpArgs false
namespace Go.Ev
def inS (p : Int × Int) : Prop := (0 ≤ p.1 ∧ p.1 < 65521) ∧ 0 ≤ p.2 ∧ p.2 < 65521
theorem tmod_in {n : Int} (h : 0 ≤ n) : 0 ≤ Int.tmod n 65521 ∧ Int.tmod n 65521 < 65521 := by
  rw [Int.tmod_eq_emod_of_nonneg h]; omega
theorem u32_nonneg (n : Int) : 0 ≤ IntKind.u32.wrap n := by rw [wrap_u32]; omega
theorem addB_in (p : Int × Int) (c : UInt8) : inS (addB p c) := ⟨tmod_in (u32_nonneg _), tmod_in (u32_nonneg _)⟩
theorem start_in {n : Int} (h : 0 ≤ n) : inS (startS n) := by
  refine ⟨tmod_in (n := Int.fdiv n 65536) ?_, tmod_in (n := bitsOp .and .u32 n 65535) ?_⟩
  · rw [Int.fdiv_eq_ediv_of_nonneg _ (by omega)]; omega
  · exact ((has_u32 _).1 (bitsOp_has .and .u32 n 65535)).1
theorem in_has {p : Int × Int} (h : inS p) : IntKind.u32.has p.1 ∧ IntKind.u32.has p.2 := by
  obtain ⟨⟨h1, h2⟩, h3, h4⟩ := h
  rw [has_u32, has_u32]; omega
theorem tell_num {p : Int × Int} (h : inS p) : tellS p = p.1 * 65536 + p.2 := by
  obtain ⟨a, b⟩ := p
  obtain ⟨⟨h1, h2⟩, h3, h4⟩ := h
  simp only at h1 h2 h3 h4
  obtain ⟨m, rfl⟩ := Int.eq_ofNat_of_zero_le h1
  obtain ⟨n, rfl⟩ := Int.eq_ofNat_of_zero_le h3
  have e1 : IntKind.u32.wrap ((m : Int) * 65536) = ((m * 65536 : Nat) : Int) := by rw [u32_id (by omega) (by omega)]; simp
  have e2 : m * 65536 ||| n = m * 65536 + n := by
    have := Nat.shiftLeft_add_eq_or_of_lt (i := 16) (b := n) (by omega) m
    rw [Nat.shiftLeft_eq] at this
    exact this.symm
  unfold tellS
  simp only
  rw [e1, or_nat (by omega) (by simp [IntKind.bits]; omega) (by omega) (by simp [IntKind.bits]; omega) (by rw [Int.toNat_natCast, Int.toNat_natCast, e2, has_u32]; omega), Int.toNat_natCast, Int.toNat_natCast, e2]
  omega
theorem tell_eq {p : Int × Int} (h : inS p) : IntKind.u32.wrap (IntKind.u32.wrap (p.1 * 65536) + p.2) = tellS p := by
  rw [tell_num h]
  obtain ⟨⟨h1, h2⟩, h3, h4⟩ := h
  rw [u32_id (n := p.1 * 65536) (by omega) (by omega), u32_id (by omega) (by omega)]
theorem addAll_snoc : ∀ (s : List UInt8) (p : Int × Int) (c : UInt8), addAll p (s ++ [c]) = addB (addAll p s) c
  | [], _, _ => rfl
  | x :: s, p, c => addAll_snoc s (addB p x) c
theorem take_snoc {s : List UInt8} {i : Int} (h0 : 0 ≤ i) (hi : i < s.length) : s.take (i + 1).toNat = s.take i.toNat ++ [s.getD i.toNat 0] := by
  rw [show (i + 1).toNat = i.toNat + 1 by omega, List.take_add_one]
  simp [List.getD, show i.toNat < s.length by omega]
end Go.Ev
/- The sum of more bytes keeps its contract. -/
set_option linter.unusedVariables false
set_option linter.unusedSimpArgs false
namespace Go.Ev.Z
open Go.Proofs Go.Conc
def moreC : Ctr := { args := [.int .u32, .str], res := [.int .u32], pre := none, fn := fun (x : Int × List UInt8) => moreF x.1 x.2 }
/- The two cells, as kept blocks. -/
structure TwoK (W : Nat → Option Obj) (p q : Nat) (z : Int × Int) : Prop where
  ne : p ≠ q
  fst : ∃ e, W p = some (.cells #[.int .u32 z.1] e (0, 0))
  snd : ∃ e, W q = some (.cells #[.int .u32 z.2] e (0, 0))
  rng : inS z
abbrev moK (p q : Nat) : Nat → Prop := fun k => k = p ∨ k = q
abbrev moSl (p q : Nat) : List (Nat × Value) := [(5, addV p q), (6, telV p q)]
theorem mo_all : seqs (bodyOf (fnOf Tryz.prog 98)) = [moB 0, moB 1, moB 2, moB 3, moB 4, moB 5] := by kernel_rfl
theorem mo_1 : moB 1 = .region 1 (rOps (moB 1)) false := by kernel_rfl
theorem mo_3 : moB 3 = .block 0 (.loop (loopB 0 (bodyOf (fnOf Tryz.prog 98)))) := by kernel_rfl
theorem mo_4 : moB 4 = .region 7 (rOps (moB 4)) false := by kernel_rfl
theorem mo_5 : moB 5 = .ret := by kernel_rfl
theorem mo_loop : seqs (loopB 0 (bodyOf (fnOf Tryz.prog 98))) = [moL 0, moL 1, moL 2, moL 3] := by kernel_rfl
theorem mo_l1 : moL 1 = .cond (.tmp 16) .skip (.exit 0) := by kernel_rfl
theorem mo_l2 : moL 2 = .block 1 (rIn (moL 2)) := by kernel_rfl
theorem mo_in : seqs (rIn (moL 2)) = [moI 0, moI 1] := by kernel_rfl
theorem mo_i1 : moI 1 = .region 5 (rOps (moI 1)) false := by kernel_rfl
theorem mo_n : (fnOf Tryz.prog 98).ntmps = 26 := by kernel_rfl
theorem b0_body : (fnOf Tryz.prog 106).body.isNone = false := by kernel_rfl
theorem b1_body : (fnOf Tryz.prog 109).body.isNone = false := by kernel_rfl
theorem b2_body : (fnOf Tryz.prog 110).body.isNone = false := by kernel_rfl
theorem b0_name : ((fnOf Tryz.prog 106).name == "runtime.NumGoroutine") = false := by kernel_rfl
theorem b1_name : ((fnOf Tryz.prog 109).name == "runtime.NumGoroutine") = false := by kernel_rfl
theorem b2_name : ((fnOf Tryz.prog 110).name == "runtime.NumGoroutine") = false := by kernel_rfl
theorem b0_fn : Tryz.prog.funcs[106]? = some (fnOf Tryz.prog 106) := fnOf_eq (by kernel_rfl)
theorem b1_fn : Tryz.prog.funcs[109]? = some (fnOf Tryz.prog 109) := fnOf_eq (by kernel_rfl)
theorem b2_fn : Tryz.prog.funcs[110]? = some (fnOf Tryz.prog 110) := fnOf_eq (by kernel_rfl)
attribute [local irreducible] fnOf bodyOf
section
variable {R0 : Ref} {b : Frame} {p q : Nat} {a : Act} {w : World} {W : Nat → Option Obj}
theorem mo_two {sl : List (Nat × Value)} {n : Nat} {s : St} {z : Int × Int} (h : Kd R0 (moK p q) W n sl s a w) (t : TwoK W p q z) : (∃ e, w.heap[p]? = some (.cells #[.int .u32 z.1] e (0, 0))) ∧ ∃ e, w.heap[q]? = some (.cells #[.int .u32 z.2] e (0, 0)) := by
  rw [h.heap (.inl rfl), h.heap (.inr rfl)]
  exact ⟨t.fst, t.snd⟩
/- One byte: the closure is called. -/
theorem mo_byte {Q : Exit → Act → World → Prop} {z : Int × Int} {s : List UInt8} {n i : Int} (h : Kd R0 (moK p q) W 26 (moSl p q) (mkS (moTx 7 (.int .i64)) [] ((s, n, i, i, ()), ())) a w) (t : TwoK W p q z) (h0 : 0 ≤ i) (h1 : i < s.length)
    (hQ : ∀ a' w', Kd R0 (moK p q) (fun k => w'.heap[k]?) 26 (moSl p q) (mkS moT [] ((s, n, i, ()), ())) a' w' → TwoK (fun k => w'.heap[k]?) p q (addB z (s.getD i.toNat 0)) → Q .normal a' w') :
    CodeTo Tryz.prog b (moI 1) Q a w := by
  rw [mo_i1]
  refine CodeTo.region ?_
  rw [show List.range (rOps (moI 1)).size = [0, 1, 2, 3, 4] by kernel_rfl]
  refine RegTo.moved (o := rOp (moI 1) 0) (x := .tmp 5) (by kernel_rfl) (by kernel_rfl) (.inl (by kernel_rfl)) ?_
  rw [show (rOp (moI 1) 0).dst = some 18 by kernel_rfl, show a.eval (.tmp 5) = addV p q from h.slots (5, addV p q) (by simp)]
  have k1 := h.keep (k := 18) (v := addV p q) rfl (by omega) (by simp)
  show RegTo Tryz.prog b _ ([1, 2, 3] ++ [4]) _ _ _
  refine k1.opsL (C := mkC tys [] []) tysOK ctrs_nil (ts := moTx 21 (.int .u8)) (bs := []) (G := fun x => x = some ((s, n, i, ((s.getD i.toNat 0).toNat : Int), ()), ())) [1, 2, 3] (by kernel_rfl) (by kernel_rfl) ?_ ?_ (fun h => by cases h)
  · have := congrFun mo5_tree ((s, n, i, i, ()), ())
    show (opsT (mkC tys [] []) (moTx 21 (.int .u8)) [] [rOp (moI 1) 1, rOp (moI 1) 2, rOp (moI 1) 3] (mkS (moTx 7 (.int .i64)) [] ((s, n, i, i, ()), ()))).holds _
    rw [this]
    exact ⟨⟨h0, h1⟩, rfl⟩
  · intro x a1 w1 hx k2
    simp only [Option.some.injEq] at hx
    subst hx
    generalize hc : s.getD i.toNat 0 = c at k2 hQ
    obtain ⟨⟨e1, g1⟩, e2, g2⟩ := mo_two k2 t
    have hv := in_has t.rng
    obtain ⟨M2, _, _, hr21⟩ : ∃ M : Mem, M.w = w1 ∧ True ∧ ∀ t, RelV M ((mkS (moTx 21 (.int .u8)) [] ((s, n, i, (c.toNat : Int), ()), ())).look t) (a1.tmps.getD t undef) := by
      obtain ⟨M, h1, _, _, h4⟩ := k2.old
      exact ⟨M, h1, trivial, h4⟩
    have h21 : a1.tmps.getD 21 undef = .int .u8 (c.toNat : Int) := by
      obtain ⟨cs, j1, j2⟩ := hr21 21
      have j3 : cs = [.int .u8 (c.toNat : Int)] := j1.1
      subst j3
      exact j2
    refine k2.call (o := rOp (moI 1) 4) (x := .tmp 18) (ar := #[.tmp 21]) (ts := #[5]) (f := 109) (caps := #[.pointer (some ⟨q, 0, none⟩), .pointer (some ⟨p, 0, none⟩)]) (args := #[.int .u8 (c.toNat : Int), .pointer (some ⟨q, 0, none⟩), .pointer (some ⟨p, 0, none⟩)])
      (by kernel_rfl) (by kernel_rfl) (by kernel_rfl) (k2.slots (18, addV p q) (by simp)) ?_ b1_fn b1_body b1_name (sum1_calls (c := c) (fun e => t.ne e.symm) g2 g1 hv.2 hv.1) ?_
    · have h21' : a1.eval (.tmp 21) = .int .u8 (c.toNat : Int) := h21
      simp [h21']
    · rintro e w2 ⟨rfl, j1, j2, j3, j4, j5, ⟨f1, j6⟩, f2, j7⟩
      refine ⟨_, moK p q, fun k => w2.heap[k]?, rfl, fun k hk => .inl hk, ?_, fun k _ => rfl, j1, j2, j3, j4, fun k hk hn => j5 k hk (fun e => hn (.inr e)) (fun e => hn (.inl e)), ?_⟩
      · rintro k (rfl | rfl)
        · exact (Array.getElem?_eq_some_iff.1 j7).1
        · exact (Array.getElem?_eq_some_iff.1 j6).1
      · intro k3
        rw [show (rOp (moI 1) 4).dst = some 22 by kernel_rfl]
        refine RegTo.nil ?_
        have k4 := (k3.keep (k := 22) (v := .tuple #[]) rfl (by omega) (by simp)).less (sl' := moSl p q) (fun x hx => by simp at hx ⊢; rcases hx with rfl | rfl <;> simp)
        have k5 := k4.restr (L := { prom := [], keep := moT.map (·.1), boxes := [], sum := fun _ => .stuck }) (s' := mkS moT [] ((s, n, i, ()), ())) (by kernel_rfl)
        exact hQ _ _ k5 ⟨t.ne, ⟨f2, j7⟩, ⟨f1, j6⟩, addB_in z c⟩
/- The loop. -/
def moI0 (R0 : Ref) (p q : Nat) (z : Int × Int) (s : List UInt8) (m : Nat) (a : Act) (w : World) : Prop :=
  ∃ i : Int, 0 ≤ i ∧ i ≤ s.length ∧ (m : Int) = s.length - i ∧ ∃ W, Kd R0 (moK p q) W 26 (moSl p q) (mkS moT [] ((s, (s.length : Int), i, ()), ())) a w ∧ TwoK W p q (addAll z (s.take i.toNat))
theorem mo_round {Q : Exit → Act → World → Prop} {z : Int × Int} {s : List UInt8} (hs : s.length ≤ 4611686018427387904) {m : Nat} (h : moI0 R0 p q z s m a w)
    (hend : ∀ a' w' W', Kd R0 (moK p q) W' 26 (moSl p q) (mkS moT [] ((s, (s.length : Int), (s.length : Int), ()), ())) a' w' → TwoK W' p q (addAll z s) → Q (.exit 0) a' w') :
    CodeTo Tryz.prog b (loopB 0 (bodyOf (fnOf Tryz.prog 98))) (Exit.then (fun a' w' => ∃ m', m' < m ∧ moI0 R0 p q z s m' a' w') Q) a w := by
  obtain ⟨i, h0, h1, h2, W, h3, h4⟩ := h
  refine CodeTo.seqs ?_
  rw [mo_loop]
  show LTo Tryz.prog b ([moL 0] ++ [moL 1, moL 2, moL 3]) _ a w
  refine h3.piece (C := mkC tys [] []) tysOK ctrs_nil mixed (fn := fnOf Tryz.prog 98) (res := [.int .u32]) (ts := moTx 16 .bool) (bs := []) (G := fun x => x = (none, some ((s, (s.length : Int), i, decide (i < s.length), ()), ()))) (by kernel_rfl) (by kernel_rfl) ?_ ?_ ?_ ?_
  · rw [congrFun mo3_tree _]; rfl
  · intro y s' a' w' hy; cases hy
  · intro x a1 w1 hx k1
    simp only [Prod.mk.injEq, Option.some.injEq, true_and] at hx
    subst hx
    refine LTo.cons ?_
    rw [mo_l1]
    refine CodeTo.cond (t := decide (i < s.length)) (k1.old.bool rfl) ?_
    cases hlt : decide (i < s.length) with
    | false =>
      have : ¬ i < s.length := by simpa using hlt
      have hi : i = s.length := by omega
      subst hi
      rw [if_neg (by simp)]
      refine CodeTo.exit ?_
      refine hend _ _ W (k1.restr (L := { prom := [], keep := moT.map (·.1), boxes := [], sum := fun _ => .stuck }) (s' := mkS moT [] ((s, (s.length : Int), (s.length : Int), ()), ())) (by kernel_rfl)) ?_
      have : s.take (s.length : Int).toNat = s := by simp
      rw [this] at h4
      exact h4
    | true =>
      have hlt' : i < s.length := by simpa using hlt
      rw [if_pos rfl]
      refine CodeTo.skip ?_
      have k2 := k1.restr (L := { prom := [], keep := moT.map (·.1), boxes := [], sum := fun _ => .stuck }) (s' := mkS moT [] ((s, (s.length : Int), i, ()), ())) (by kernel_rfl)
      refine LTo.cons ?_
      rw [mo_l2]
      refine CodeTo.block ?_
      refine CodeTo.seqs ?_
      rw [mo_in]
      show LTo Tryz.prog b ([moI 0] ++ [moI 1]) _ a1 w1
      refine k2.piece (C := mkC tys [] []) tysOK ctrs_nil mixed (fn := fnOf Tryz.prog 98) (res := [.int .u32]) (ts := moTx 7 (.int .i64)) (bs := []) (G := fun x => x = (none, some ((s, (s.length : Int), i, i, ()), ()))) (by kernel_rfl) (by kernel_rfl) ?_ ?_ ?_ ?_
      · rw [congrFun mo4_tree _]; rfl
      · intro y s' a' w' hy; cases hy
      · intro x a2 w2 hx k3
        simp only [Prod.mk.injEq, Option.some.injEq, true_and] at hx
        subst hx
        refine LTo.cons ?_
        refine mo_byte k3 h4 h0 hlt' fun a3 w3 k4 t4 => ?_
        show LTo Tryz.prog b ([moL 3] ++ []) _ a3 w3
        refine k4.piece (C := mkC tys [] []) tysOK ctrs_nil mixed (fn := fnOf Tryz.prog 98) (res := [.int .u32]) (ts := moT) (bs := []) (G := fun x => x = (none, some ((s, (s.length : Int), IntKind.i64.wrap (i + 1), ()), ()))) (by kernel_rfl) (by kernel_rfl) ?_ ?_ ?_ ?_
        · rw [congrFun mo6_tree _]; rfl
        · intro y s' a' w' hy; cases hy
        · intro x a4 w4 hx k5
          simp only [Prod.mk.injEq, Option.some.injEq, true_and] at hx
          subst hx
          rw [show IntKind.i64.wrap (i + 1) = i + 1 from i64_id (by omega) (by omega)] at k5
          refine ⟨m - 1, by omega, i + 1, by omega, by omega, by omega, _, k5, ?_⟩
          rw [take_snoc h0 hlt', addAll_snoc]
          exact t4
        · intro h; cases h
      · intro h; cases h
  · intro h; cases h
end
theorem more_ok : CtrOK Tryz.prog 98 moreC :=
  ctr_of_to (C := mkC tys [] []) tysOK (by kernel_rfl) (by kernel_rfl) (by kernel_rfl) (fun x => by rw [mo_n]; show 2 ≤ 26; omega) fun R0 b (x : Int × List UInt8) a0 hbk hw _ h0 hsz0 hd0 => by
    obtain ⟨n, s⟩ := x
    rw [mo_n] at hsz0
    have hn : IntKind.u32.has n := hw.1
    have hs : s.length ≤ 4611686018427387904 := hw.2
    rw [mo_all]
    have k0 := Kd.start (W := fun _ => none) (n := 26) (sl := []) h0 hsz0 hd0 (fun _ h => by cases h)
    show LTo Tryz.prog b ([moB 0] ++ [moB 1, moB 2, moB 3, moB 4, moB 5]) _ a0 R0.w0
    refine k0.piece (C := mkC tys [] []) tysOK ctrs_nil mixed (fn := fnOf Tryz.prog 98) (res := [.int .u32]) (ts := moT0) (bs := []) (G := fun x => x = (none, some ((n, s, ()), ()))) (by kernel_rfl) (by kernel_rfl) ?_ ?_ ?_ ?_
    · show (pieceT (mkC tys [] []) (fnOf Tryz.prog 98) [.int .u32] moT0 [] [moB 0] { tmps := number 0 (resL [.int .u32, .str] (n, s)), boxes := [] }).holds _
      rw [congrFun mo0_tree (n, s)]; rfl
    · intro y s' a' w' hy; cases hy
    · intro x a1 w1 hx k1
      simp only [Prod.mk.injEq, Option.some.injEq, true_and] at hx
      subst hx
      refine LTo.cons ?_
      rw [mo_1]
      refine CodeTo.region ?_
      rw [show List.range (rOps (moB 1)).size = [0, 1, 2, 3, 4, 5, 6] by kernel_rfl]
      show RegTo Tryz.prog b _ ([0] ++ [1, 2, 3, 4, 5, 6]) _ _ _
      refine k1.opsL (C := mkC tys [] []) tysOK ctrs_nil (ts := moT9) (bs := []) (G := fun x => x = some ((s, n, ()), ())) [0] (by kernel_rfl) (by kernel_rfl) ?_ ?_ (fun h => by cases h)
      · have := congrFun mo9_tree ((n, s, ()), ())
        show (opsT (mkC tys [] []) moT9 [] [rOp (moB 1) 0] (mkS moT0 [] ((n, s, ()), ()))).holds _
        rw [this]; rfl
      · intro x a2 w2 hx k2
        simp only [Option.some.injEq] at hx
        subst hx
        have h9 : a2.tmps.getD 9 undef = .int .u32 n := by
          obtain ⟨M, _, _, _, hr⟩ := k2.old
          obtain ⟨cs, j1, j2⟩ := hr 9
          have j3 : cs = [.int .u32 n] := j1.1
          subst j3
          exact j2
        have h9' : a2.eval (.tmp 9) = .int .u32 n := h9
        refine k2.call (o := rOp (moB 1) 1) (x := .func 106) (ar := #[.tmp 9]) (ts := #[22]) (f := 106) (caps := #[]) (args := #[.int .u32 n]) (by kernel_rfl) (by kernel_rfl) (by kernel_rfl) rfl (by simp [h9']) b0_fn b0_body b0_name (summer_calls w2 hn) ?_
        rintro e w3 ⟨p, q, rfl, j1, j2, j3, j4, j5, j6, j7, ⟨jne, ⟨e1, je1⟩, ⟨e2, je2⟩, jx, jy⟩⟩
        refine ⟨_, moK p q, fun k => w3.heap[k]?, rfl, ?_, ?_, fun k _ => rfl, j1, j2, j3, j4, fun k hk hn => j5 k hk, ?_⟩
        · rintro k (rfl | rfl)
          · exact .inr j6
          · exact .inr j7
        · rintro k (rfl | rfl)
          · exact (Array.getElem?_eq_some_iff.1 je1).1
          · exact (Array.getElem?_eq_some_iff.1 je2).1
        · intro k3
          have t3 : TwoK (fun k => w3.heap[k]?) p q (startS n) := ⟨jne, ⟨e1, je1⟩, ⟨e2, je2⟩, start_in ((has_u32 n).1 hn).1⟩
          rw [show (rOp (moB 1) 1).dst = some 10 by kernel_rfl]
          have k4 := k3.keep (k := 10) (v := .tuple #[addV p q, telV p q]) rfl (by omega) (by simp)
          refine RegTo.moved (o := rOp (moB 1) 2) (x := .tmp 10) (by kernel_rfl) (by kernel_rfl) (.inl (by kernel_rfl)) ?_
          rw [show (rOp (moB 1) 2).dst = some 8 by kernel_rfl, show (a2.put (some 10) (.tuple #[addV p q, telV p q])).eval (.tmp 10) = .tuple #[addV p q, telV p q] from k4.slots (10, .tuple #[addV p q, telV p q]) (by simp)]
          have k5 := k4.keep (k := 8) (v := .tuple #[addV p q, telV p q]) rfl (by omega) (by simp)
          generalize (a2.put (some 10) (.tuple #[addV p q, telV p q])).put (some 8) (.tuple #[addV p q, telV p q]) = a3 at k5 ⊢
          refine RegTo.extract (o := rOp (moB 1) 3) (x := .tmp 8) (j := 0) (vs := #[addV p q, telV p q]) (v := addV p q) (by kernel_rfl) (by kernel_rfl) (by kernel_rfl) (k5.slots (8, .tuple #[addV p q, telV p q]) (by simp)) rfl ?_
          rw [show (rOp (moB 1) 3).dst = some 11 by kernel_rfl]
          have k6 := k5.keep (k := 11) (v := addV p q) rfl (by omega) (by simp)
          generalize a3.put (some 11) (addV p q) = a4 at k6 ⊢
          refine RegTo.extract (o := rOp (moB 1) 4) (x := .tmp 8) (j := 1) (vs := #[addV p q, telV p q]) (v := telV p q) (by kernel_rfl) (by kernel_rfl) (by kernel_rfl) (k6.slots (8, .tuple #[addV p q, telV p q]) (by simp)) rfl ?_
          rw [show (rOp (moB 1) 4).dst = some 12 by kernel_rfl]
          have k7 := k6.keep (k := 12) (v := telV p q) rfl (by omega) (by simp)
          generalize a4.put (some 12) (telV p q) = a5 at k7 ⊢
          refine RegTo.moved (o := rOp (moB 1) 5) (x := .tmp 11) (by kernel_rfl) (by kernel_rfl) (.inr (by kernel_rfl)) ?_
          rw [show (rOp (moB 1) 5).dst = some 5 by kernel_rfl, show a5.eval (.tmp 11) = addV p q from k7.slots (11, addV p q) (by simp)]
          have k8 := k7.keep (k := 5) (v := addV p q) rfl (by omega) (by simp)
          generalize a5.put (some 5) (addV p q) = a6 at k8 ⊢
          refine RegTo.moved (o := rOp (moB 1) 6) (x := .tmp 12) (by kernel_rfl) (by kernel_rfl) (.inr (by kernel_rfl)) ?_
          rw [show (rOp (moB 1) 6).dst = some 6 by kernel_rfl, show a6.eval (.tmp 12) = telV p q from k8.slots (12, telV p q) (by simp)]
          have k9 := ((k8.keep (k := 6) (v := telV p q) rfl (by omega) (by simp)).less (sl' := moSl p q) (fun x hx => by simp at hx ⊢; rcases hx with rfl | rfl <;> simp)).restr (L := { prom := [], keep := moT1.map (·.1), boxes := [], sum := fun _ => .stuck }) (s' := mkS moT1 [] ((s, ()), ())) (by kernel_rfl)
          generalize a6.put (some 6) (telV p q) = a7 at k9 ⊢
          refine RegTo.nil ?_
          show LTo Tryz.prog b ([moB 2] ++ [moB 3, moB 4, moB 5]) _ a7 w3
          refine k9.piece (C := mkC tys [] []) tysOK ctrs_nil mixed (fn := fnOf Tryz.prog 98) (res := [.int .u32]) (ts := moT) (bs := []) (G := fun x => x = (none, some ((s, (s.length : Int), 0, ()), ()))) (by kernel_rfl) (by kernel_rfl) ?_ ?_ ?_ ?_
          · rw [congrFun mo2_tree _]; rfl
          · intro y s' a' w' hy; cases hy
          · intro x a8 w8 hx k10
            simp only [Prod.mk.injEq, Option.some.injEq, true_and] at hx
            subst hx
            refine LTo.cons ?_
            rw [mo_3]
            refine CodeTo.block ?_
            refine CodeTo.loop (moI0 R0 p q (startS n) s) s.length ⟨0, by omega, by omega, by omega, _, k10, t3⟩ fun m a' w' hI => mo_round hs hI fun a9 w9 W9 k11 t11 => ?_
            show LTo Tryz.prog b [moB 4, moB 5] _ a9 w9
            refine LTo.cons ?_
            rw [mo_4]
            refine CodeTo.region ?_
            rw [show List.range (rOps (moB 4)).size = [0, 1, 2] by kernel_rfl]
            refine RegTo.moved (o := rOp (moB 4) 0) (x := .tmp 6) (by kernel_rfl) (by kernel_rfl) (.inl (by kernel_rfl)) ?_
            rw [show (rOp (moB 4) 0).dst = some 24 by kernel_rfl, show a9.eval (.tmp 6) = telV p q from k11.slots (6, telV p q) (by simp)]
            have k12 := k11.keep (k := 24) (v := telV p q) rfl (by omega) (by simp)
            generalize a9.put (some 24) (telV p q) = a10 at k12 ⊢
            obtain ⟨⟨f1, g1⟩, f2, g2⟩ := mo_two k12 t11
            have hv := in_has t11.rng
            refine k12.call (o := rOp (moB 4) 1) (x := .tmp 24) (ar := #[]) (ts := #[]) (f := 110) (caps := #[.pointer (some ⟨p, 0, none⟩), .pointer (some ⟨q, 0, none⟩)]) (args := #[.pointer (some ⟨p, 0, none⟩), .pointer (some ⟨q, 0, none⟩)])
              (by kernel_rfl) (by kernel_rfl) (by kernel_rfl) (k12.slots (24, telV p q) (by simp)) (by simp) b2_fn b2_body b2_name (sum2_calls t11.ne g1 g2 hv.1 hv.2) ?_
            rintro e w10 ⟨rfl, i1, i2, i3, i4, i5⟩
            rw [tell_eq t11.rng]
            refine ⟨_, moK p q, fun k => w10.heap[k]?, rfl, fun k hk => .inl hk, ?_, fun k _ => rfl, i1, i2, i3, i4, fun k hk hn => i5 k hk (fun e => hn (.inl e)) (fun e => hn (.inr e)), ?_⟩
            · rintro k (rfl | rfl)
              · exact Nat.lt_of_lt_of_le (Array.getElem?_eq_some_iff.1 g1).1 i4
              · exact Nat.lt_of_lt_of_le (Array.getElem?_eq_some_iff.1 g2).1 i4
            · intro k13
              rw [show (rOp (moB 4) 1).dst = some 25 by kernel_rfl]
              have hT : IntKind.u32.has (tellS (addAll (startS n) s)) := bitsOp_has _ _ _ _
              have k14 := (k13.known (k := 25) (v := .int .u32 (tellS (addAll (startS n) s))) (av := .val (.int .u32) (tellS (addAll (startS n) s))) (fun M => ⟨_, ⟨rfl, hT⟩, rfl⟩) (by omega) (by simp)).restr (L := { prom := [], keep := (moR 25).map (·.1), boxes := [], sum := fun _ => .stuck }) (s' := mkS (moR 25) [] ((tellS (addAll (startS n) s), ()), ())) (by kernel_rfl)
              generalize a10.put (some 25) (.int .u32 (tellS (addAll (startS n) s))) = a11 at k14 ⊢
              show RegTo Tryz.prog b _ ([2] ++ []) _ _ _
              refine k14.opsL (C := mkC tys [] []) tysOK ctrs_nil (ts := moR 4) (bs := []) (G := fun x => x = some ((tellS (addAll (startS n) s), ()), ())) [2] (by kernel_rfl) (by kernel_rfl) ?_ ?_ (fun h => by cases h)
              · have := congrFun mo7_tree ((tellS (addAll (startS n) s), ()), ())
                show (opsT (mkC tys [] []) (moR 4) [] [rOp (moB 4) 2] (mkS (moR 25) [] ((tellS (addAll (startS n) s), ()), ()))).holds _
                rw [this]; rfl
              · intro x a12 w12 hx k15
                simp only [Option.some.injEq] at hx
                subst hx
                refine RegTo.nil ?_
                refine LTo.cons ?_
                rw [mo_5]
                refine then_id (CodeTo.of_wp (wp_ret ?_))
                refine ⟨.inr rfl, k15.defers, _, k15.old, ?_⟩
                have : evRes (mkC tys [] []) (fnOf Tryz.prog 98) moreC.res (.normal, mkS (moR 4) [] ((tellS (addAll (startS n) s), ()), ())) = .leaf (tellS (addAll (startS n) s)) := by kernel_rfl
                rw [this]
                rfl
          · intro h; cases h
    · intro h; cases h
end Go.Ev.Z
/- Numbers and kinds, both ways, in plain Lean. -/
set_option linter.unusedVariables false
set_option linter.unusedSimpArgs false
namespace Go.Ev
theorem snoc_of (l : List UInt8) (h : l ≠ []) : ∃ m b, l = m ++ [b] := ⟨l.dropLast, l.getLast h, (List.dropLast_concat_getLast h).symm⟩
theorem num_bigN : ∀ (k : Nat) (l : List UInt8), l.length = k → numB k (bigN l) = l
  | 0, l, h => by rw [List.eq_nil_of_length_eq_zero h]; rfl
  | k + 1, l, h => by
    obtain ⟨m, b, rfl⟩ := snoc_of l (by intro e; rw [e] at h; cases h)
    have hb := b.toNat_lt
    have e1 : (bigN m * 256 + b.toNat) / 256 = bigN m := by omega
    have e2 : UInt8.ofNat ((bigN m * 256 + b.toNat) % 256) = b := by
      rw [show (bigN m * 256 + b.toNat) % 256 = b.toNat by omega]
      exact UInt8.ofNat_toNat
    rw [bigN_snoc]
    show numB k ((bigN m * 256 + b.toNat) / 256) ++ [UInt8.ofNat ((bigN m * 256 + b.toNat) % 256)] = m ++ [b]
    rw [e1, e2, num_bigN k m (by simpa using h)]
theorem num4_eq {n : Int} {d : List UInt8} (h0 : 0 ≤ n) (h1 : n < 4294967296) (hd : d.length = 4) : (numF n 4 == d) = !(n != (bigN d : Int)) := by
  obtain ⟨m, rfl⟩ := Int.eq_ofNat_of_zero_le h0
  have e : numF (m : Int) 4 = numB 4 m := by
    show numB 4 _ = _
    simp
  have hb := bigN_lt d
  rw [hd] at hb
  rw [Bool.eq_iff_iff]
  simp only [beq_iff_eq, bne_iff_ne, ne_eq, Bool.not_eq_true', bne_eq_false_iff_eq]
  rw [e]
  constructor
  · intro h
    have := congrArg bigN h
    rw [bigN_num, Nat.mod_eq_of_lt (by omega)] at this
    omega
  · intro h
    have : m = bigN d := by omega
    rw [this, num_bigN 4 d hd]
theorem kind_nil (x : Int) : (kindF x == []) = bif decide (x < 1) then true else decide (x > 4) := by
  unfold kindF
  by_cases h1 : x = 1
  · subst h1; rfl
  · by_cases h2 : x = 2
    · subst h2; rfl
    · by_cases h3 : x = 3
      · subst h3; rfl
      · by_cases h4 : x = 4
        · subst h4; rfl
        · have e1 : (x == (1 : Int)) = false := by simpa using h1
          have e2 : (x == (2 : Int)) = false := by simpa using h2
          have e3 : (x == (3 : Int)) = false := by simpa using h3
          have e4 : (x == (4 : Int)) = false := by simpa using h4
          rw [e1, e2, e3, e4]
          have : (decide (x < 1) = true) ∨ (decide (x > 4) = true) := by simp; omega
          cases hd : decide (x < 1) with
          | true => rfl
          | false =>
            rw [hd] at this
            simp only [cond_false]
            rcases this with h | h
            · cases h
            · rw [h]; rfl
theorem sum_rng (s : List UInt8) : 0 ≤ sumF s ∧ sumF s < 4294967296 := by
  have := bitsOp_has .or .u32 (IntKind.wrap IntKind.u32 ((addAll (startS 1) s).1 * (65536 : Int))) (addAll (startS 1) s).2
  rw [has_u32] at this
  exact ⟨this.1, by have := this.2; show sumF s < _; unfold sumF moreF tellS; omega⟩
theorem num70 : numF 70 1 = [70] := by decide
end Go.Ev
/- An end's ticks, in plain Lean. -/
set_option linter.unusedVariables false
set_option linter.unusedSimpArgs false
namespace Go.Ev
abbrev gItem : GTy := .prod (.int .i64) (.prod (.int .i64) (.prod (.int .u32) (.int .i64)))
abbrev gPart : GTy := .prod (.int .i64) (.prod gPair (.prod (.int .i64) (.prod .bool (.sl gItem))))
abbrev gWin : GTy := .prod (.int .i64) (.sl gPart)
abbrev gKept : GTy := .prod (.int .i64) (.prod .str (.prod (.int .i64) (.int .i64)))
abbrev gMrl : GTy := .prod (.int .i64) (.prod (.sl gKept) (.prod gWin (.sl gItem)))
abbrev gPort : GTy := .prod (.int .i64) (.prod gE (.prod gE (.prod (.int .i64) (.prod (.int .i64) gMrl))))
abbrev DItem := Int × Int × Int × Int
abbrev DPart := Int × ((Int × Int) × (Int × Int)) × Int × Bool × List DItem
abbrev DWin := Int × List DPart
abbrev DKept := Int × List UInt8 × Int × Int
abbrev DMrl := Int × List DKept × DWin × List DItem
abbrev DPort := Int × (Int × Int) × (Int × Int) × Int × Int × DMrl
def dueF (x : DPort) : Bool := bif x.1 != (0 : Int) then decide (x.2.2.2.2.1 ≤ (1 : Int)) else false
def heardF (x : DPort) : DPort := (x.1, x.2.1, x.2.2.1, (0 : Int), x.2.2.2.2)
def stepF (r : DRules) (x : DPort) : DPort := bif dueF x then (x.1, x.2.1, x.2.2.1, x.2.2.2.1, if r.1 < (1 : Int) then (1 : Int) else r.1, x.2.2.2.2.2) else (x.1, x.2.1, x.2.2.1, x.2.2.2.1, IntKind.wrap IntKind.i64 (x.2.2.2.2.1 - (1 : Int)), x.2.2.2.2.2)
def quietF (r : DRules) (x : DPort) : DPort := bif decide (x.2.2.2.1 < r.2.1) then (x.1, x.2.1, x.2.2.1, IntKind.wrap IntKind.i64 (x.2.2.2.1 + (1 : Int)), x.2.2.2.2) else x
def tickF (x : DPort) (r : DRules) : DPort × Bool × Bool :=
  bif x.1 == (0 : Int) then (x, false, false)
  else bif (stepF r x).1 == (2 : Int) then (quietF r (stepF r x), dueF x, decide ((quietF r (stepF r x)).2.2.2.1 ≥ r.2.1))
  else (stepF r x, dueF x, false)
def thenOf : Code → Code
  | .cond _ x _ => x
  | _ => .skip
def opsOf : Code → Array Oper
  | .region _ ops _ => ops
  | _ => #[]
def opOf (c : Code) (i : Nat) : Oper := (opsOf c).getD i default
@[reducible] def tkS : List (Nat × Sh) := [(2, .ptr 2 gPort), (3, .ptr 3 gRules), (4, .ptr 4 gPort), (7, .val .bool)]
@[reducible] def tkT (t : Nat) : List (Nat × Sh) := [(2, .ptr 2 gPort), (3, .ptr 3 gRules), (4, .ptr 4 gPort), (7, .val .bool), (t, .val .bool)]
@[reducible] def tkM : List (Nat × BSh) := [(2, .var gPort), (3, .var gRules), (4, .var gPort)]
end Go.Ev
/- Items in bytes, in plain Lean. -/
set_option linter.unusedVariables false
set_option linter.unusedSimpArgs false
namespace Go.Ev
def itemOk (x : DItem) : Bool :=
  bif bif bif !rightF x.1 then true else decide (x.2.1 < (0 : Int)) then true else decide (x.2.1 > (2 : Int)) then false
  else bif x.2.2.1 == (0 : Int) then x.2.2.2 == (-1 : Int)
  else bif x.2.2.1 == (4294967295 : Int) then x.2.2.2 == (-1 : Int)
  else bif bif rightF x.2.2.2 then x.2.2.2 != x.1 else false then decide (x.2.2.1 ≤ (983040 : Int)) else false
def itemB (x : DItem) : List UInt8 :=
  numF (IntKind.wrap IntKind.u64 (IntKind.wrap IntKind.i64 (IntKind.wrap IntKind.i64 ((16 : Int) * x.1) + x.2.1))) (1 : Int) ++ numF (IntKind.wrap IntKind.u64 x.2.2.1) (4 : Int) ++
    numF (IntKind.wrap IntKind.u64 (bif x.2.2.2 == (-1 : Int) then (255 : Int) else x.2.2.2)) (1 : Int)
def itemF (x : DItem) : List UInt8 × Int := bif !itemOk x then ([], 1) else (itemB x, 0)
theorem itemB_len (x : DItem) : (itemB x).length = 6 := by unfold itemB; rw [List.length_append, List.length_append, numF_len1, numF_len4, numF_len1]
theorem itemF_len (x : DItem) : (itemF x).1.length ≤ 6 := by
  unfold itemF
  cases itemOk x with
  | true => exact Nat.le_of_eq (itemB_len x)
  | false => exact Nat.zero_le _
def allG (out : List UInt8) (i : Nat) : List DItem → List UInt8 × Int
  | [] => (out, 0)
  | x :: l => bif (itemF x).2 != (0 : Int) then ([], (itemF x).2) else bif decide ((i : Int) ≥ 48) then ([], 4) else allG (out ++ (itemF x).1) (i + 1) l
def allF (l : List DItem) : List UInt8 × Int := allG [] 0 l
theorem allG_len : ∀ (l : List DItem) {out : List UInt8} {i : Nat}, out.length ≤ 6 * i → i ≤ 48 → (allG out i l).1.length ≤ 288
  | [], out, i, h, hi => by simp only [allG]; omega
  | x :: l, out, i, h, hi => by
    simp only [allG]
    cases (itemF x).2 != (0 : Int) with
    | true => simp
    | false =>
      cases hd : decide ((i : Int) ≥ 48) with
      | true => simp
      | false =>
        have hi' : ¬ (i : Int) ≥ 48 := by simpa using hd
        have := itemF_len x
        simp only [cond_false]
        exact allG_len l (by rw [List.length_append]; omega) (by omega)
theorem allF_len (l : List DItem) : (allF l).1.length ≤ 288 := allG_len l (Nat.zero_le _) (by omega)
theorem drop_item {l : List DItem} {i : Int} (h0 : 0 ≤ i) (h1 : i < l.length) : l.drop i.toNat = l.getD i.toNat (0, 0, 0, 0) :: l.drop (i + 1).toNat := by
  have hlt : i.toNat < l.length := by omega
  rw [List.drop_eq_getElem_cons hlt, show (i + 1).toNat = i.toNat + 1 by omega]
  simp [List.getD, hlt]
end Go.Ev
/- Parts in bytes, in plain Lean. -/
set_option linter.unusedVariables false
set_option linter.unusedSimpArgs false
namespace Go.Ev
def bodyF (l : List DItem) : List UInt8 × Bool := ((allF l).1, bif (allF l).2 == (0 : Int) then decide (((allF l).1.length : Int) ≤ 40) else false)
def pokF (p : DPart) : Bool := bif bif bif (bodyF p.2.2.2.2).2 then rightF p.1 else false then decide (p.2.2.1 ≥ 0) else false then decide (p.2.2.1 ≤ 65535) else false
def partB (p : DPart) : List UInt8 :=
  numF (IntKind.wrap IntKind.u64 p.1) (1 : Int) ++ pairB p.2.1 ++ numF (IntKind.wrap IntKind.u64 p.2.2.1) (2 : Int) ++ numF (bif p.2.2.2.1 then (1 : Int) else (0 : Int)) (1 : Int) ++ (bodyF p.2.2.2.2).1
def partF (p : DPart) : List UInt8 × Int := bif !pokF p then ([], 1) else (partB p, 0)
def wrappedF (k : Int) (s : List UInt8) (e : Int) : List UInt8 × Int := bif e != (0 : Int) then ([], e) else wrapF k s
def fpartF (p : DPart) : List UInt8 × Int := wrappedF 2 (partF p).1 (partF p).2
theorem numF_len2 (n : Int) : (numF n 2).length = 2 := numB_len 2 _
theorem bodyF_len (l : List DItem) : (bodyF l).1.length ≤ 288 := allF_len l
end Go.Ev
/- Frames: what is wrapped is opened; one byte that is another one is told. -/
set_option linter.unusedVariables false
set_option linter.unusedSimpArgs false
namespace Go.Ev
theorem seal_len (t : List UInt8) : (sealF t).length = t.length + 4 := by unfold sealF; rw [List.length_append, numF_len4]
theorem sum_tail (t : List UInt8) : (bigN (numF (IntKind.wrap IntKind.u64 (sumF t)) 4) : Int) = sumF t := by
  obtain ⟨h0, h1⟩ := sum_rng t
  rw [u64_id (by omega) (by omega)]
  obtain ⟨m, hm⟩ := Int.eq_ofNat_of_zero_le h0
  have e : numF (sumF t) 4 = numB 4 m := by
    rw [hm]
    show numB 4 _ = _
    simp
  rw [e, bigN_num, Nat.mod_eq_of_lt (by omega)]
  omega
theorem unseal_at (t d : List UInt8) (hd : d.length = 4) : unsealF (t ++ d) = bif IntKind.wrap IntKind.u64 (sumF t) != (bigN d : Int) then ([], 5) else (t, 0) := by
  unfold unsealF
  have hl : (t ++ d).length - 4 = t.length := by rw [List.length_append]; omega
  have h4 : decide (((t ++ d).length : Int) < 4) = false := by
    have : (t ++ d).length = t.length + 4 := by rw [List.length_append]; omega
    simp
    omega
  rw [hl, h4, List.take_left, List.drop_left]
  rfl
theorem unseal_seal (t : List UInt8) : unsealF (sealF t) = (t, 0) := by
  show unsealF (t ++ numF (IntKind.wrap IntKind.u64 (sumF t)) 4) = _
  rw [unseal_at _ _ (numF_len4 _), sum_tail]
  obtain ⟨h0, h1⟩ := sum_rng t
  rw [u64_id (by omega) (by omega)]
  simp
def frameT (k : Int) (s : List UInt8) : List UInt8 := (([70] : List UInt8) ++ numF (IntKind.wrap IntKind.u64 k) 1) ++ s
theorem frameT_len (k : Int) (s : List UInt8) : (frameT k s).length = s.length + 2 := by
  unfold frameT
  rw [List.length_append, List.length_append, numF_len1]
  simp
  omega
theorem wrap_in {k : Int} (h1 : 1 ≤ k) (h4 : k ≤ 4) {s : List UInt8} (hs : s.length ≤ 250) : wrapF k s = (sealF (frameT k s), 0) := by
  unfold wrapF
  have e1 : decide (k < 1) = false := by simp; omega
  have e2 : decide (k > 4) = false := by simp; omega
  have e3 : decide ((s.length : Int) > 250) = false := by simp; omega
  rw [e1, e2, e3]
  rfl
theorem open_in {k : Int} (h1 : 1 ≤ k) (h4 : k ≤ 4) {s : List UInt8} (hs : s.length ≤ 250) : openF (sealF (frameT k s)) = (k, s, 0) := by
  unfold openF
  rw [unseal_seal, seal_len, frameT_len]
  have e1 : decide (((s.length + 2 + 4 : Nat) : Int) > 256) = false := by simp; omega
  have e2 : decide (((s.length + 2 : Nat) : Int) < 2) = false := by simp; omega
  rw [e1, e2]
  have hk : k = 1 ∨ k = 2 ∨ k = 3 ∨ k = 4 := by omega
  rcases hk with rfl | rfl | rfl | rfl
  · rw [show frameT 1 s = 70 :: 1 :: s from by unfold frameT; rw [show numF (IntKind.wrap IntKind.u64 1) 1 = [1] by decide]; rfl]; rfl
  · rw [show frameT 2 s = 70 :: 2 :: s from by unfold frameT; rw [show numF (IntKind.wrap IntKind.u64 2) 1 = [2] by decide]; rfl]; rfl
  · rw [show frameT 3 s = 70 :: 3 :: s from by unfold frameT; rw [show numF (IntKind.wrap IntKind.u64 3) 1 = [3] by decide]; rfl]; rfl
  · rw [show frameT 4 s = 70 :: 4 :: s from by unfold frameT; rw [show numF (IntKind.wrap IntKind.u64 4) 1 = [4] by decide]; rfl]; rfl
end Go.Ev
/- What is said in frames, kind by kind. -/
set_option linter.unusedVariables false
set_option linter.unusedSimpArgs false
namespace Go.Ev
abbrev gHello : GTy := .prod (.int .i64) gPair
abbrev gAck : GTy := .prod (.int .i64) (.prod gPair (.prod (.int .i64) (.int .i64)))
abbrev DHello := Int × DPair
abbrev DAck := Int × DPair × Int × Int
def hokF (h : DHello) : Bool := bif rightF h.1 then !noneF h.2.1 else false
def helloB (h : DHello) : List UInt8 := numF (IntKind.wrap IntKind.u64 h.1) 1 ++ pairB h.2
def helloF (h : DHello) : List UInt8 × Int := bif !hokF h then ([], 1) else (helloB h, 0)
def nearF (n : Int) : Bool := bif decide (n ≥ 0) then decide (n ≤ 65535) else false
def aokF (a : DAck) : Bool := bif bif bif rightF a.1 then nearF a.2.2.1 else false then decide (a.2.2.2 ≥ 0) else false then decide (a.2.2.2 ≤ 255) else false
def ackB (a : DAck) : List UInt8 := ((numF (IntKind.wrap IntKind.u64 a.1) 1 ++ pairB a.2.1) ++ numF (IntKind.wrap IntKind.u64 a.2.2.1) 2) ++ numF (IntKind.wrap IntKind.u64 a.2.2.2) 1
def ackF (a : DAck) : List UInt8 × Int := bif !aokF a then ([], 1) else (ackB a, 0)
end Go.Ev
/- Loops told by their steps: round after round, till one does not go on. -/
set_option linter.unusedVariables false
namespace Go.Ev
def runF {σ : Type} (stp : σ → Ex × σ) : Nat → σ → Ex × σ
  | 0, x => (.normal, x)
  | n + 1, x => match stp x with
    | (.normal, y) => runF stp n y
    | p => p
theorem runF_go {σ : Type} {stp : σ → Ex × σ} {n : Nat} {x y : σ} (h : stp x = (.normal, y)) : runF stp (n + 1) x = runF stp n y := by
  show (match stp x with | (.normal, y) => runF stp n y | p => p) = _
  rw [h]
theorem runF_end {σ : Type} {stp : σ → Ex × σ} {n : Nat} {x : σ} (h : (stp x).1 ≠ .normal) : runF stp (n + 1) x = stp x := by
  show (match stp x with | (.normal, y) => runF stp n y | p => p) = _
  split
  · rename_i y hy
    rw [hy] at h
    exact absurd rfl h
  · rfl
theorem runF_fuel {σ : Type} {stp : σ → Ex × σ} {pre : σ → Prop} {μ : σ → Nat} (h : ∀ x, pre x → (stp x).1 = .normal → pre (stp x).2 ∧ μ (stp x).2 < μ x) : ∀ n m x, pre x → μ x < n → μ x < m → runF stp n x = runF stp m x
  | 0, _, _, _, h1, _ => by omega
  | _ + 1, 0, _, _, _, h1 => by omega
  | n + 1, m + 1, x, hp, h1, h2 => by
    by_cases hn : (stp x).1 = .normal
    · have e : stp x = (.normal, (stp x).2) := Prod.ext hn rfl
      obtain ⟨h3, h4⟩ := h x hp hn
      rw [runF_go e, runF_go e]
      exact runF_fuel h n m _ h3 (by omega) (by omega)
    · rw [runF_end hn, runF_end hn]
theorem runF_inv {σ : Type} {stp : σ → Ex × σ} {J : σ → Prop} {Post : Ex × σ → Prop} {μ : σ → Nat} (h : ∀ x, J x → ((stp x).1 = .normal → J (stp x).2 ∧ μ (stp x).2 < μ x) ∧ ((stp x).1 ≠ .normal → Post (stp x))) : ∀ n x, J x → μ x < n → Post (runF stp n x)
  | 0, _, _, h1 => by omega
  | n + 1, x, hp, h1 => by
    obtain ⟨h2, h3⟩ := h x hp
    by_cases hn : (stp x).1 = .normal
    · have e : stp x = (.normal, (stp x).2) := Prod.ext hn rfl
      obtain ⟨h4, h5⟩ := h2 hn
      rw [runF_go e]
      exact runF_inv h n _ h4 (by omega)
    · rw [runF_end hn]
      exact h3 hn
def isRet : Ex → Bool
  | .ret => true
  | _ => false
def out2 {σ : Type} (id : Nat) (p : Ex × σ) : Tree (Ex × σ) := .br (isRet p.1) (.leaf (.ret, p.2)) (.leaf (.exit id, p.2))
section
variable {C : Ctx} {body : Code} {D : LoopD}
theorem loopF_ok {T : ShT D.ts × ShB D.bs → Tree (Ex × Option (ShT D.ts × ShB D.bs))} (hstep : ∀ x, roundOf C D body x = T x) (stp : ShT D.ts × ShB D.bs → Ex × (ShT D.ts × ShB D.bs)) (μ : ShT D.ts × ShB D.bs → Nat)
    (O : Ex × (ShT D.ts × ShB D.bs) → Tree (Ex × (ShT D.ts × ShB D.bs))) (hD : ∀ x, D.out x = O (runF stp (μ x + 1) x)) (hO : ∀ x, D.pre x → (stp x).1 ≠ .normal → ∀ G, (O (stp x)).holds G → G (stp x))
    (h : ∀ x, D.pre x → ((T x).holds fun p => p = ((stp x).1, some (stp x).2)) ∧ ((stp x).1 = .normal → D.pre (stp x).2 ∧ μ (stp x).2 < μ x)) : LoopOK C D.spec body :=
  loopD_ok hstep μ fun x hp => by
    obtain ⟨h1, h2⟩ := h x hp
    refine holds_mono ?_ h1
    rintro p rfl
    refine ⟨(stp x).2, rfl, ?_⟩
    by_cases hn : (stp x).1 = .normal
    · obtain ⟨h3, h4⟩ := h2 hn
      have e : stp x = (.normal, (stp x).2) := Prod.ext hn rfl
      simp only [hn]
      refine ⟨h3, h4, fun G hG => ?_⟩
      rw [hD, runF_go e, runF_fuel (pre := D.pre) (μ := μ) (fun y hy => (h y hy).2) (μ x) (μ (stp x).2 + 1) _ h3 h4 (by omega)] at hG
      rw [hD]
      exact hG
    · have hfin : ∀ G, (D.out x).holds G → G ((stp x).1, (stp x).2) := fun G hG => by
        rw [hD, runF_end hn] at hG
        exact hO x hp hn G hG
      cases he : (stp x).1 with
      | normal => exact absurd he hn
      | exit k => rw [he] at hfin; exact hfin
      | ret => rw [he] at hfin; exact hfin
      | die v => rw [he] at hfin; exact hfin
theorem loopF2_ok {T : ShT D.ts × ShB D.bs → Tree (Ex × Option (ShT D.ts × ShB D.bs))} (hstep : ∀ x, roundOf C D body x = T x) {id : Nat} (stp : ShT D.ts × ShB D.bs → Ex × (ShT D.ts × ShB D.bs)) (μ : ShT D.ts × ShB D.bs → Nat) (hD : ∀ x, D.out x = out2 id (runF stp (μ x + 1) x))
    (he : ∀ x, (stp x).1 = .normal ∨ (stp x).1 = .exit id ∨ (stp x).1 = .ret) (h : ∀ x, D.pre x → ((T x).holds fun p => p = ((stp x).1, some (stp x).2)) ∧ ((stp x).1 = .normal → D.pre (stp x).2 ∧ μ (stp x).2 < μ x)) : LoopOK C D.spec body :=
  loopF_ok hstep stp μ (out2 id) hD (fun x _ hn G hG => by
    rcases (he x).resolve_left hn with h1 | h1
    · have e : stp x = (.exit id, (stp x).2) := Prod.ext h1 rfl
      rw [e] at hG ⊢
      exact hG.2 rfl
    · have e : stp x = (.ret, (stp x).2) := Prod.ext h1 rfl
      rw [e] at hG ⊢
      exact hG.1 rfl) h
end
end Go.Ev
/- The document's list of items, in bytes. -/
set_option linter.unusedVariables false
set_option linter.unusedSimpArgs false
namespace Go.Ev
end Go.Ev
/- A parcel read: what comes of it. -/
set_option linter.unusedVariables false
set_option linter.unusedSimpArgs false
namespace Go.Ev
end Go.Ev
/- A parcel in bytes, read back. -/
set_option linter.unusedVariables false
set_option linter.unusedSimpArgs false
namespace Go.Ev
theorem num_one {n : Int} (h0 : 0 ≤ n) (h1 : n < 256) : numF n 1 = [UInt8.ofNat n.toNat] := by
  show numB 1 n.toNat = _
  simp only [numB, List.nil_append]
  rw [Nat.mod_eq_of_lt (by omega)]
theorem byte_of {n : Int} (h0 : 0 ≤ n) (h1 : n < 256) : ((UInt8.ofNat n.toNat).toNat : Int) = n := by
  rw [UInt8.toNat_ofNat', Nat.mod_eq_of_lt (by omega)]
  omega
end Go.Ev
/- Equality of values, told as equality. -/
set_option linter.unusedVariables false
namespace Go.Ev
theorem geq_go_self {α : Type} {f : α → α → Bool} (h : ∀ x, f x x = true) : ∀ l : List α, geq.go f l l = true
  | [] => rfl
  | x :: l => by rw [geq_go_cons, h, geq_go_self h l]; rfl
theorem geq_self : ∀ (g : GTy) (x : den g), cmp g = true → geq g x x = true
  | .bool, x, _ => by simp [geq]
  | .int _, x, _ => by simp [geq]
  | .str, x, _ => by simp [geq]
  | .unit, _, _ => rfl
  | .prod a b, x, h => by
    have h' : (cmp a && cmp b) = true := h
    rw [Bool.and_eq_true] at h'
    show (geq a x.1 x.1 && geq b x.2 x.2) = true
    rw [geq_self a _ h'.1, geq_self b _ h'.2]; rfl
  | .arr n a, x, h => geq_go_self (fun y => geq_self a y h) x
  | .sl _, _, h => by cases h
  | .err, _, h => by cases h
end Go.Ev
/- A session both ways, in plain Lean: what is sent, kept, taken and let out. -/
set_option linter.unusedVariables false
set_option linter.unusedSimpArgs false
namespace Go.Ev
def nextS (n : Int) : Int × Int := bif !nearF n then (0, 1) else bif decide (n ≥ 65000) then (0, 11) else (n + 1, 0)
def aheadS (n o : Int) : Int := bif (bif (bif !nearF n then true else !nearF o) then true else decide (n < o)) then -1 else n - o
def nearS (n o : Int) : Bool := bif decide (aheadS n o ≥ 0) then decide (aheadS n o < 8) else false
def bitT : List Int := [1, 2, 4, 8, 16, 32, 64, 128]
def hasA (a : DAck) (q : Int) : Bool := bif decide (q < a.2.2.1) then true else bif decide (a.2.2.1 < 0) then false else bif decide (q > 65535) then false else bif decide (q - a.2.2.1 ≥ 8) then false else bitsOp .and .i64 a.2.2.2 (bitT.getD (q - a.2.2.1).toNat 0) != 0
def addF (l : List DKept) (q : Int) (s : List UInt8) (r : DRules) : List DKept × Int :=
  bif (bif !nearF q then true else decide (r.2.2.1 < 1)) then (l, 1) else bif decide ((l.length : Int) ≥ 8) then (l, 8) else bif l.any (fun x => decide (x.1 ≥ q)) then (l, 10) else (l ++ [(q, s, 1, r.2.2.1)], 0)
def leftF (l : List DKept) (a : DAck) : List DKept := l.filter fun x => !hasA a x.1
def ackedF (l : List DKept) (a : DAck) : List DKept × Int := (leftF l a, (l.length : Int) - (leftF l a).length)
def tick1 (r : DRules) (x : DKept) : DKept := bif decide (x.2.2.2 > 1) then (x.1, x.2.1, x.2.2.1, x.2.2.2 - 1) else bif decide (x.2.2.1 ≥ r.2.2.2) then x else (x.1, x.2.1, x.2.2.1 + 1, r.2.2.1)
def againB (r : DRules) (x : DKept) : Bool := bif decide (x.2.2.2 > 1) then false else !decide (x.2.2.1 ≥ r.2.2.2)
def deadB (r : DRules) (x : DKept) : Bool := bif decide (x.2.2.2 > 1) then false else decide (x.2.2.1 ≥ r.2.2.2)
def ktickF (l : List DKept) (r : DRules) : List DKept × List (List UInt8) × Bool := (l.map (tick1 r), (l.filter (againB r)).map (·.2.1), l.any (deadB r))
def seqsF (w : DWin) : List Int := w.2.map (·.2.2.1)
def putF (l : List DPart) (p : DPart) : List DPart := l.takeWhile (fun x => !decide (x.2.2.1 > p.2.2.1)) ++ p :: l.dropWhile (fun x => !decide (x.2.2.1 > p.2.2.1))
def turnF : Int → List DPart → Int × List DPart × List DPart
  | n, [] => (n, [], [])
  | n, x :: l => bif x.2.2.1 != n then (n, [], x :: l) else ((turnF (n + 1) l).1, x :: (turnF (n + 1) l).2.1, (turnF (n + 1) l).2.2)
def wtakeF (w : DWin) (p : DPart) : DWin × List DPart × Int :=
  bif (bif !pokF p then true else !nearF w.1) then (w, [], 1) else bif decide (p.2.2.1 < w.1) then (w, [], 6) else bif !nearS p.2.2.1 w.1 then (w, [], 8) else bif (seqsF w).any (fun n => n == p.2.2.1) then (w, [], 6)
  else (((turnF w.1 (putF w.2 p)).1, (turnF w.1 (putF w.2 p)).2.2), (turnF w.1 (putF w.2 p)).2.1, 0)
def orBit (n : Int) (b q : Int) : Int := bif (bif decide (q ≥ n) then decide (q - n < 8) else false) then bitsOp .or .i64 b (bitT.getD (q - n).toNat 0) else b
def bitsA (n : Int) (l : List Int) : Int × Int := bif decide (n < 0) then (n, 0) else (n, l.foldl (orBit n) 0)
def gatherF (g : List DItem) (p : DPart) : List DItem × List DItem × Bool × Int :=
  bif (bif decide ((g.length : Int) > 48) then true else decide ((p.2.2.2.2.length : Int) > 48 - g.length)) then ([], [], false, 4) else bif p.2.2.2.1 then (g ++ p.2.2.2.2, [], false, 0) else ([], g ++ p.2.2.2.2, true, 0)
def piecesF (k : Nat) : Nat → List DItem → List (List DItem)
  | 0, l => [l]
  | f + 1, l => bif decide (l.length > k) then l.take k :: piecesF k f (l.drop k) else [l]
def msplitF (l : List DItem) : List (List DItem) × Int := bif decide ((l.length : Int) > 48) then ([], 4) else bif (allF l).2 != 0 then ([], (allF l).2) else (piecesF 6 l.length l, 0)
theorem near_iff {n : Int} : nearF n = true ↔ 0 ≤ n ∧ n ≤ 65535 := by
  unfold nearF
  by_cases h : n ≥ 0
  · rw [decide_eq_true h, cond_true, decide_eq_true_eq]
    exact ⟨fun h2 => ⟨h, h2⟩, fun h2 => h2.2⟩
  · rw [decide_eq_false h]
    exact ⟨fun h2 => (by cases h2), fun h2 => absurd h2.1 h⟩
theorem near_not {n : Int} (h : (!nearF n) = false) : 0 ≤ n ∧ n ≤ 65535 := near_iff.1 (by simpa using h)
theorem ahead_in {n o : Int} (h : (bif (bif !nearF n then true else !nearF o) then true else decide (n < o)) = false) : 0 ≤ o ∧ o ≤ n ∧ n ≤ 65535 := by
  cases h1 : !nearF n with
  | true => rw [h1] at h; cases h
  | false =>
    cases h2 : !nearF o with
    | true => rw [h1, h2] at h; cases h
    | false =>
      rw [h1, h2] at h
      have h3 : ¬ n < o := of_decide_eq_false h
      have := near_not h1
      have := near_not h2
      omega
end Go.Ev
/- Loops of a session, in plain Lean. -/
set_option linter.unusedVariables false
set_option linter.unusedSimpArgs false
namespace Go.Ev
theorem drop_elt {α : Type} {l : List α} (d : α) {i : Int} (h0 : 0 ≤ i) (h1 : i < l.length) : l.drop i.toNat = l.getD i.toNat d :: l.drop (i + 1).toNat := by
  have hlt : i.toNat < l.length := by omega
  rw [List.drop_eq_getElem_cons hlt, show (i + 1).toNat = i.toNat + 1 by omega]
  simp [List.getD, hlt]
def part0 : DPart := ((0 : Int), (((0 : Int), (0 : Int)), (0 : Int), (0 : Int)), (0 : Int), false, [])
def kept0 : DKept := ((0 : Int), [], (0 : Int), (0 : Int))
abbrev SqS := (List DPart × Int × Int × Unit) × (List Int × Unit)
def sqPre (x : SqS) : Prop := 0 ≤ x.1.2.2.1 ∧ x.1.2.2.1 ≤ x.1.2.1 ∧ x.1.2.1 = x.1.1.length ∧ x.1.2.1 ≤ 100000 ∧ (x.2.1.length : Int) ≤ x.1.2.2.1
abbrev RkS := (List DKept × Int × Int × Unit) × (DAck × List DKept × Unit)
def rkPre (x : RkS) : Prop := 0 ≤ x.1.2.2.1 ∧ x.1.2.2.1 ≤ x.1.2.1 ∧ x.1.2.1 = x.1.1.length ∧ x.1.2.1 ≤ 100000 ∧ (x.2.2.1.length : Int) ≤ x.1.2.2.1
abbrev AoS := (Int × Int × List Int × Int × Int × Unit) × (List Int × Unit)
def aoPre (x : AoS) : Prop := 0 ≤ x.1.2.2.2.2.1 ∧ x.1.2.2.2.2.1 ≤ x.1.2.2.2.1 ∧ x.1.2.2.2.1 = x.1.2.2.1.length ∧ x.1.2.2.2.1 ≤ 100000 ∧ 0 ≤ x.1.1 ∧ x.2.1 = bitT ∧ (∀ q ∈ x.1.2.2.1, -9223372036854775808 ≤ q ∧ q ≤ 9223372036854775807)
theorem or_wrap {n b q : Int} (h0 : 0 ≤ n) (h1 : q ≤ 9223372036854775807) : (bif (bif decide (q ≥ n) then decide (IntKind.i64.wrap (q - n) < 8) else false) then bitsOp .or .i64 b (bitT.getD (IntKind.i64.wrap (q - n)).toNat 0) else b) = orBit n b q := by
  unfold orBit
  by_cases h : q ≥ n
  · rw [decide_eq_true h, i64_id (n := q - n) (by omega) (by omega)]
  · rw [decide_eq_false h]
    simp only [cond_false]
theorem or_need {n q : Int} (h0 : 0 ≤ n) (h1 : q ≤ 9223372036854775807) (h : (bif decide (q ≥ n) then decide (IntKind.i64.wrap (q - n) < 8) else false) = true) : 0 ≤ IntKind.i64.wrap (q - n) ∧ IntKind.i64.wrap (q - n) < 8 := by
  by_cases h2 : q ≥ n
  · rw [decide_eq_true h2, cond_true] at h
    have h3 := of_decide_eq_true h
    rw [i64_id (n := q - n) (by omega) (by omega)] at h3 ⊢
    omega
  · rw [decide_eq_false h2] at h; cases h
theorem elt_mem {α : Type} {l : List α} (d : α) {i : Int} (h0 : 0 ≤ i) (h1 : i < l.length) : l.getD i.toNat d ∈ l := by
  have hlt : i.toNat < l.length := by omega
  simp [List.getD, hlt]
def idxGo (v : Int) : Int → List Int → Int
  | _, [] => -1
  | i, x :: l => bif v == x then i else idxGo v (i + 1) l
theorem idx_any (v : Int) : ∀ (l : List Int) (i : Int), 0 ≤ i → (decide (idxGo v i l ≥ 0)) = l.any (fun n => n == v)
  | [], i, _ => rfl
  | x :: l, i, h => by
    show decide ((bif v == x then i else idxGo v (i + 1) l) ≥ 0) = (x == v || l.any fun n => n == v)
    have e : (v == x) = (x == v) := by
      rw [Bool.eq_iff_iff, beq_iff_eq, beq_iff_eq]
      exact eq_comm
    rw [e]
    cases x == v with
    | true => rw [cond_true, decide_eq_true h]; rfl
    | false => rw [cond_false, idx_any v l (i + 1) (by omega)]; rfl
abbrev SxS := (List Int × Int × Int × Int × Int × Unit) × Unit
def sxPre (x : SxS) : Prop := 0 ≤ x.1.2.2.2.2.1 ∧ x.1.2.2.2.2.1 ≤ x.1.2.2.2.1 ∧ x.1.2.2.2.1 = x.1.1.length ∧ x.1.2.2.2.1 ≤ 100000
def sxStp (x : SxS) : Ex × SxS :=
  bif decide (x.1.2.2.2.2.1 < x.1.2.2.2.1) then
    bif x.1.2.1 == x.1.1.getD x.1.2.2.2.2.1.toNat 0 then (.ret, ((x.1.1, x.1.2.1, x.1.2.2.2.2.1, x.1.2.2.2.1, x.1.2.2.2.2.1, ()), ()))
    else (.normal, ((x.1.1, x.1.2.1, x.1.2.2.1, x.1.2.2.2.1, x.1.2.2.2.2.1 + 1, ()), ()))
  else (.exit 0, x)
def sxMu (x : SxS) : Nat := (x.1.2.2.2.1 - x.1.2.2.2.2.1).toNat
theorem sxStp_ends (x : SxS) : (sxStp x).1 = .normal ∨ (sxStp x).1 = .exit 0 ∨ (sxStp x).1 = .ret := by
  unfold sxStp
  cases decide (x.1.2.2.2.2.1 < x.1.2.2.2.1) <;> cases x.1.2.1 == x.1.1.getD x.1.2.2.2.2.1.toNat 0 <;> simp
theorem sx_go {x : SxS} (hp : sxPre x) (hn : (sxStp x).1 = .normal) : sxPre (sxStp x).2 ∧ sxMu (sxStp x).2 < sxMu x := by
  obtain ⟨⟨s, v, r, len, i, ⟨⟩⟩, ⟨⟩⟩ := x
  obtain ⟨h1, h2, h3, h4⟩ := hp
  simp only at h1 h2 h3 h4
  unfold sxStp at hn ⊢
  simp only at hn ⊢
  by_cases hi : i < len
  · rw [decide_eq_true hi] at hn ⊢
    simp only [cond_true] at hn ⊢
    cases hb : v == s.getD i.toNat 0 with
    | true => rw [hb] at hn; cases hn
    | false => exact ⟨⟨by show 0 ≤ i + 1; omega, by show i + 1 ≤ len; omega, h3, h4⟩, by show (len - (i + 1)).toNat < (len - i).toNat; omega⟩
  · rw [decide_eq_false hi] at hn; cases hn
theorem sx_run {R : Int} (n : Nat) (x : SxS) (hp : sxPre x) (hR : idxGo x.1.2.1 x.1.2.2.2.2.1 (x.1.1.drop x.1.2.2.2.2.1.toNat) = R) (hn : sxMu x < n) : (bif isRet (runF sxStp n x).1 then (runF sxStp n x).2.1.2.2.1 else -1) = R := by
  refine runF_inv (J := fun x => sxPre x ∧ idxGo x.1.2.1 x.1.2.2.2.2.1 (x.1.1.drop x.1.2.2.2.2.1.toNat) = R) (Post := fun q => (bif isRet q.1 then q.2.1.2.2.1 else -1) = R) (μ := sxMu) (fun x hx => ?_) n x ⟨hp, hR⟩ hn
  obtain ⟨h0, h5⟩ := hx
  have hgo := fun hn => sx_go h0 hn
  obtain ⟨⟨s, v, r, len, i, ⟨⟩⟩, ⟨⟩⟩ := x
  obtain ⟨h1, h2, h3, h4⟩ := h0
  simp only at h1 h2 h3 h4 h5
  by_cases hi : i < len
  · rw [drop_elt 0 h1 (by omega)] at h5
    unfold idxGo at h5
    cases hb : v == s.getD i.toNat 0 with
    | true =>
      rw [hb] at h5
      have e : sxStp ((s, v, r, len, i, PUnit.unit), PUnit.unit) = (.ret, ((s, v, i, len, i, ()), ())) := by
        unfold sxStp
        simp only
        rw [decide_eq_true hi, hb]; rfl
      exact ⟨fun hn => (by rw [e] at hn; cases hn), fun _ => by rw [e]; exact h5⟩
    | false =>
      rw [hb] at h5
      have e : sxStp ((s, v, r, len, i, PUnit.unit), PUnit.unit) = (.normal, ((s, v, r, len, i + 1, ()), ())) := by
        unfold sxStp
        simp only
        rw [decide_eq_true hi, hb]; rfl
      exact ⟨fun hn => ⟨⟨(hgo hn).1, by rw [e]; exact h5⟩, (hgo hn).2⟩, fun hn => (by rw [e] at hn; exact absurd rfl hn)⟩
  · have e : sxStp ((s, v, r, len, i, PUnit.unit), PUnit.unit) = (.exit 0, ((s, v, r, len, i, ()), ())) := by
      unfold sxStp
      simp only
      rw [decide_eq_false hi]; rfl
    rw [List.drop_eq_nil_of_le (by omega)] at h5
    exact ⟨fun hn => (by rw [e] at hn; cases hn), fun _ => by rw [e]; exact h5⟩
end Go.Ev
/- Loops of a session: parts put in their place; kept parts added and ticked. -/
set_option linter.unusedVariables false
set_option linter.unusedSimpArgs false
namespace Go.Ev
abbrev PtS := (Int × List DPart × Int × Int × Unit) × (DPart × Unit)
def ptB (p : DPart) (x : DPart) : Bool := !decide (x.2.2.1 > p.2.2.1)
def ptPre (x : PtS) : Prop := 0 ≤ x.1.2.2.2.1 ∧ x.1.2.2.2.1 ≤ x.1.2.2.1 ∧ x.1.2.2.1 = x.1.2.1.length ∧ x.1.2.2.1 ≤ 100000 ∧ x.1.1 = x.1.2.2.1
def ptK (x : PtS) : Int := x.1.2.2.2.1 + ((x.1.2.1.drop x.1.2.2.2.1.toNat).takeWhile (ptB x.2.1)).length
theorem put_in_place (l : List DPart) (p : DPart) : l.take (l.takeWhile (ptB p)).length ++ [p] ++ l.drop (l.takeWhile (ptB p)).length = putF l p := by
  have h : l.takeWhile (ptB p) ++ l.dropWhile (ptB p) = l := List.takeWhile_append_dropWhile
  have e1 : l.take (l.takeWhile (ptB p)).length = l.takeWhile (ptB p) := by
    have := List.take_left (l₁ := l.takeWhile (ptB p)) (l₂ := l.dropWhile (ptB p))
    rwa [h] at this
  have e2 : l.drop (l.takeWhile (ptB p)).length = l.dropWhile (ptB p) := by
    have := List.drop_left (l₁ := l.takeWhile (ptB p)) (l₂ := l.dropWhile (ptB p))
    rwa [h] at this
  rw [e1, e2, List.append_assoc]
  rfl
theorem ptK_in {x : PtS} (hp : ptPre x) : 0 ≤ ptK x ∧ ptK x ≤ x.1.2.2.1 := by
  obtain ⟨h1, h2, h3, h4, h5⟩ := hp
  have h6 : ((x.1.2.1.drop x.1.2.2.2.1.toNat).takeWhile (ptB x.2.1)).length ≤ (x.1.2.1.drop x.1.2.2.2.1.toNat).length := (List.takeWhile_sublist _).length_le
  rw [List.length_drop] at h6
  unfold ptK
  omega
abbrev RaS := (List DKept × Int × List DKept × Int × List DKept × Int × Int × Unit) × Unit
def raPre (x : RaS) : Prop := 0 ≤ x.1.2.2.2.2.2.2.1 ∧ x.1.2.2.2.2.2.2.1 ≤ x.1.2.2.2.2.2.1 ∧ x.1.2.2.2.2.2.1 = x.1.2.2.2.2.1.length ∧ x.1.2.2.2.2.2.1 ≤ 100000
def raStp (x : RaS) : Ex × RaS :=
  bif decide (x.1.2.2.2.2.2.2.1 < x.1.2.2.2.2.2.1) then
    bif decide ((x.1.2.2.2.2.1.getD x.1.2.2.2.2.2.2.1.toNat kept0).1 ≥ x.1.2.1) then (.ret, ((x.1.1, x.1.2.1, x.1.1, 10, x.1.2.2.2.2.1, x.1.2.2.2.2.2.1, x.1.2.2.2.2.2.2.1, ()), ()))
    else (.normal, ((x.1.1, x.1.2.1, x.1.2.2.1, x.1.2.2.2.1, x.1.2.2.2.2.1, x.1.2.2.2.2.2.1, x.1.2.2.2.2.2.2.1 + 1, ()), ()))
  else (.exit 0, x)
def raMu (x : RaS) : Nat := (x.1.2.2.2.2.2.1 - x.1.2.2.2.2.2.2.1).toNat
theorem raStp_ends (x : RaS) : (raStp x).1 = .normal ∨ (raStp x).1 = .exit 0 ∨ (raStp x).1 = .ret := by
  unfold raStp
  cases decide (x.1.2.2.2.2.2.2.1 < x.1.2.2.2.2.2.1) <;> cases decide ((x.1.2.2.2.2.1.getD x.1.2.2.2.2.2.2.1.toNat kept0).1 ≥ x.1.2.1) <;> simp
theorem ra_go {x : RaS} (hp : raPre x) (hn : (raStp x).1 = .normal) : raPre (raStp x).2 ∧ raMu (raStp x).2 < raMu x := by
  obtain ⟨⟨l0, q, r, e, l, len, i, ⟨⟩⟩, ⟨⟩⟩ := x
  obtain ⟨h1, h2, h3, h4⟩ := hp
  simp only at h1 h2 h3 h4
  unfold raStp at hn ⊢
  simp only at hn ⊢
  by_cases hi : i < len
  · rw [decide_eq_true hi] at hn ⊢
    simp only [cond_true] at hn ⊢
    cases hb : decide ((l.getD i.toNat kept0).1 ≥ q) with
    | true => rw [hb] at hn; cases hn
    | false => exact ⟨⟨by show 0 ≤ i + 1; omega, by show i + 1 ≤ len; omega, h3, h4⟩, by show (len - (i + 1)).toNat < (len - i).toNat; omega⟩
  · rw [decide_eq_false hi] at hn; cases hn
theorem ra_run {b : Bool} (l0 : List DKept) (q : Int) (n : Nat) (x : RaS) (hp : raPre x) (h0 : x.1.1 = l0) (hq : x.1.2.1 = q) (hb : (x.1.2.2.2.2.1.drop x.1.2.2.2.2.2.2.1.toNat).any (fun y => decide (y.1 ≥ q)) = b) (hn : raMu x < n) :
    isRet (runF raStp n x).1 = b ∧ (runF raStp n x).2.1.1 = l0 ∧ (b = true → (runF raStp n x).2.1.2.2.1 = l0 ∧ (runF raStp n x).2.1.2.2.2.1 = 10) ∧ (runF raStp n x).2.1.2.1 = q := by
  refine runF_inv (J := fun x => raPre x ∧ x.1.1 = l0 ∧ x.1.2.1 = q ∧ (x.1.2.2.2.2.1.drop x.1.2.2.2.2.2.2.1.toNat).any (fun y => decide (y.1 ≥ q)) = b) (Post := fun p => isRet p.1 = b ∧ p.2.1.1 = l0 ∧ (b = true → p.2.1.2.2.1 = l0 ∧ p.2.1.2.2.2.1 = 10) ∧ p.2.1.2.1 = q) (μ := raMu) (fun x hx => ?_) n x ⟨hp, h0, hq, hb⟩ hn
  obtain ⟨k0, k1, k2, k3⟩ := hx
  have hgo := fun hn => ra_go k0 hn
  obtain ⟨⟨l1, q', r, e, l, len, i, ⟨⟩⟩, ⟨⟩⟩ := x
  obtain ⟨h1, h2, h3, h4⟩ := k0
  simp only at h1 h2 h3 h4 k1 k2 k3
  subst k1
  subst k2
  by_cases hi : i < len
  · rw [drop_elt kept0 h1 (by omega), List.any_cons] at k3
    cases hb2 : decide ((l.getD i.toNat kept0).1 ≥ q') with
    | true =>
      rw [hb2, Bool.true_or] at k3
      have e1 : raStp ((l1, q', r, e, l, len, i, PUnit.unit), PUnit.unit) = (.ret, ((l1, q', l1, 10, l, len, i, ()), ())) := by
        unfold raStp
        simp only
        rw [decide_eq_true hi, hb2]; rfl
      exact ⟨fun hn => (by rw [e1] at hn; cases hn), fun _ => by rw [e1]; exact ⟨k3, rfl, fun _ => ⟨rfl, rfl⟩, rfl⟩⟩
    | false =>
      rw [hb2, Bool.false_or] at k3
      have e1 : raStp ((l1, q', r, e, l, len, i, PUnit.unit), PUnit.unit) = (.normal, ((l1, q', r, e, l, len, i + 1, ()), ())) := by
        unfold raStp
        simp only
        rw [decide_eq_true hi, hb2]; rfl
      exact ⟨fun hn => ⟨⟨(hgo hn).1, by rw [e1]; exact ⟨rfl, rfl, k3⟩⟩, (hgo hn).2⟩, fun hn => (by rw [e1] at hn; exact absurd rfl hn)⟩
  · have e1 : raStp ((l1, q', r, e, l, len, i, PUnit.unit), PUnit.unit) = (.exit 0, ((l1, q', r, e, l, len, i, ()), ())) := by
      unfold raStp
      simp only
      rw [decide_eq_false hi]; rfl
    rw [List.drop_eq_nil_of_le (by omega)] at k3
    exact ⟨fun hn => (by rw [e1] at hn; cases hn), fun _ => by rw [e1]; exact ⟨k3, rfl, fun h => (by rw [← k3] at h; cases h), rfl⟩⟩
theorem set_at {α : Type} (l : List α) {n : Nat} (v : α) (h : n < l.length) : l.set n v = l.take n ++ v :: l.drop (n + 1) := by
  rw [List.set_eq_take_append_cons_drop, if_pos h]
theorem row_step (f : DKept → DKept) {row : List DKept} {i : Int} (h0 : 0 ≤ i) (h1 : i < row.length) : (row.set i.toNat (f (row.getD i.toNat kept0))).take (i + 1).toNat ++ ((row.set i.toNat (f (row.getD i.toNat kept0))).drop (i + 1).toNat).map f = row.take i.toNat ++ (row.drop i.toNat).map f := by
  have hlt : i.toNat < row.length := by omega
  have hl : (row.take i.toNat).length = i.toNat := by rw [List.length_take]; omega
  have ht : (row.take i.toNat).take (i.toNat + 1) = row.take i.toNat := List.take_of_length_le (by omega)
  have hdn : (row.take i.toNat).drop (i.toNat + 1) = [] := List.drop_eq_nil_of_le (by omega)
  rw [drop_elt (l := row) kept0 h0 h1, set_at _ _ hlt, show (i + 1).toNat = i.toNat + 1 by omega]
  rw [List.take_append, List.drop_append, hl, show i.toNat + 1 - i.toNat = 1 by omega, ht, hdn]
  simp
theorem set_same {α : Type} {l : List α} {n : Nat} {v d : α} (h : n < l.length) : (l.set n v).getD n d = v := by simp [List.getD, h]
abbrev RtS := (Bool × Int × Int × Unit) × (DRules × List DKept × List (List UInt8) × Unit)
def ok64 (x : DKept) : Prop := (-9223372036854775808 ≤ x.2.2.1 ∧ x.2.2.1 ≤ 9223372036854775807) ∧ (-9223372036854775808 ≤ x.2.2.2 ∧ x.2.2.2 ≤ 9223372036854775807)
def rtPre (x : RtS) : Prop := 0 ≤ x.1.2.2.1 ∧ x.1.2.2.1 ≤ x.1.2.1 ∧ x.1.2.1 = x.2.2.1.length ∧ x.1.2.1 ≤ 100000 ∧ (x.2.2.2.1.length : Int) ≤ x.1.2.2.1 ∧ x.2.1.2.2.2 ≤ 9223372036854775807 ∧ ∀ y ∈ x.2.2.1.drop x.1.2.2.1.toNat, ok64 y
end Go.Ev
